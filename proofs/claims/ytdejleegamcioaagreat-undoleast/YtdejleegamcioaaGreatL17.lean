/- The recursion of the least cleaning: what it returns and what it keeps. -/
/- The splits of the least cleaning, one after the other. -/
/- The splits of the least cleaning: the closure that takes them. -/
/- What the least cleaning breaks; small facts for the statements. -/
/- What is asked of the examples. -/
/- How many blocks the recursion makes at most. -/
/- undo.Least, up to the loop over what is known. -/
import Derived.Test.YtdejleegamcioaaGreatL16
namespace Go.Proofs.YtdejleegamcioaaGreat
open Go Go.M

theorem bf99 : buildF Tryz.prog 99 = some ([.int .i64 0, .int .i64 0, .int .i64 0, .bool false, .slice none 0 0, .bool false, .slice none 0 0, .bool false, .slice none 0 0, .bool false, .slice none 0 0], [(0, 1), (1, 10)]) := by kernel_rfl
theorem fb41 : funcB Tryz.f41 (Tryz.f41.body.getD .skip) 6 = true := by kernel_rfl
theorem fc41 : funcF Tryz.prog 41 = true := by kernel_rfl
theorem fc42 : funcF Tryz.prog 42 = true := by kernel_rfl
theorem of99_0 : offF Tryz.prog 99 0 = some 0 := by kernel_rfl
theorem sh96 : shapeOf Tryz.prog 96 = some (none) := by kernel_rfl
theorem sh97 : shapeOf Tryz.prog 97 = some (none) := by kernel_rfl
theorem sh99 : shapeOf Tryz.prog 99 = some (some 11) := by kernel_rfl
theorem sz99 : sizeF Tryz.prog 99 = some 11 := by kernel_rfl
theorem un23 : Tryz.prog.underlying 23 = some (.int .i64) := by kernel_rfl
theorem un96 : Tryz.prog.underlying 96 = some (.map 23 99) := by kernel_rfl
theorem zf99 : zeroF Tryz.prog 99 = some [.int .i64 0, .int .i64 0, .int .i64 0, .bool false, .slice none 0 0, .bool false, .slice none 0 0, .bool false, .slice none 0 0, .bool false, .slice none 0 0] := by kernel_rfl
theorem zv99 : zeroV Tryz.prog 99 = some (.agg ⟨[.int .i64 0, .int .i64 0, .int .i64 0, .bool false, .slice none 0 0, .bool false, .slice none 0 0, .bool false, .slice none 0 0, .bool false, .slice none 0 0]⟩) := by kernel_rfl

/-- What is asked of the recursion, for sets less than f. -/
def OfC (I : Table) (js : List (Int × Int)) (bad : Int) (may : List Sp) (r bK bJ bB bM bF : Nat) (vj vm : Value) (f : Nat) : Prop :=
  ∀ (S : Int), 0 < S → S.toNat < f → ∀ (s : St) (E : List Ent), Fine s → OfSt s r bK bJ bB bM bF vj bad vm js may E → Good js bad may E → s.next + tb may f S ≤ limit →
    ∃ v' s', Rets Tryz.prog I 41 #[.int .i64 S, ptr bK, ptr bJ, ptr bB, ptr bM, ptr bF] s v' s' ∧ (∃ E', v' = .int .i64 (bb js bad may S).1 ∧ HL [r] s s' [(r, mapO E')] (tb may f S) ∧ Good js bad may E' ∧ S ∈ keysE E' ∧ ∃ X, E' = E ++ X ∧ (∀ e ∈ X, (0 < e.k ∧ e.k ≤ S) ∧ Rch js bad may S e.k) ∧ X.length ≤ tb may f S)
theorem keys_app (E X : List Ent) : keysE (E ++ X) = keysE E ++ keysE X := by simp [keysE]
theorem key_of_find {E : List Ent} {k : Int} {e : Ent} (h : findE E k = some e) : k ∈ keysE E := by
  obtain ⟨h1, rfl⟩ := of_find h
  exact List.mem_map.mpr ⟨e, h1, rfl⟩
theorem foldl_take {may : List Sp} {v : Int → Int} {S : Int} {i : Nat} {a : Int × Sp} (h : i < may.length) : (may.take (i + 1)).foldl (stepB v S) a = stepB v S ((may.take i).foldl (stepB v S) a) (may.getD i default) := by
  rw [List.take_succ_eq_append_getElem h, List.foldl_append]
  simp [List.getD_eq_getElem?_getD, List.getElem?_eq_getElem h]
theorem mem_take_succ {may : List Sp} {i : Nat} {m : Sp} (h : i < may.length) (hm : m ∈ may.take (i + 1)) : m ∈ may.take i ∨ m = may.getD i default := by
  rw [List.take_succ_eq_append_getElem h, List.mem_append, List.mem_singleton] at hm
  rcases hm with hm | hm
  · exact .inl hm
  · right; rw [hm]; simp [List.getD_eq_getElem?_getD, List.getElem?_eq_getElem h]
theorem tbs_take {may : List Sp} {t : Int → Nat} {S : Int} {i : Nat} (h : i < may.length) : tbs t S (may.take (i + 1)) = tbs t S (may.take i) + (if (may.getD i default).w = S then t (may.getD i default).p + t (andNotI S (may.getD i default).p) else 0) := by
  rw [List.take_succ_eq_append_getElem h, tbs_append]
  simp [tbs, List.getD_eq_getElem?_getD, List.getElem?_eq_getElem h]
theorem tbs_le {may : List Sp} {t : Int → Nat} {S : Int} (i : Nat) : tbs t S (may.take i) ≤ tbs t S may := by
  conv => rhs; rw [← List.take_append_drop i may]
  rw [tbs_append]
  omega

set_option maxHeartbeats 4000000 in
set_option maxRecDepth 10000 in
theorem of_step {I : Table} (hI : Plain I) {js : List (Int × Int)} {bad : Int} {may : List Sp} (hj : ∀ j ∈ js, joinB j) (hjl : js.length ≤ 16) (hm : MayOK may) (hml : may.length ≤ 4096) {r bK bJ bB bM bF : Nat} {vj vm : Value} {f : Nat} (ih : OfC I js bad may r bK bJ bB bM bF vj vm f) : OfC I js bad may r bK bJ bB bM bF vj vm (f + 1) := by
  intro S hS hSf s E hf hst hg hroom
  have H := hst.hl hf
  have htb : tb may (f + 1) S = 60 + may.length + tbs (tb may f) S may := rfl
  rw [htb] at hroom
  rw [htb]
  obtain ⟨am, lenm, cm, rfl, hlm⟩ := hst.sM.isSlice
  rw [List.length_map] at hlm
  subst hlm
  refine call_of 6 (hI 41 (by decide) (by decide)) Tryz.func41 rfl fb41 rfl ?_
  refine cR ?_
  refine oO rfl (aC ?_)
  refine ops_nil ?_
  refine cw_seq ?_
  rcases hfe : findE E S with _ | e
  · refine cR ?_
    refine oO rfl (lO sh96 rfl (by exact oldW H hst.gR hst.lK hst.gK) rfl ?_)
    refine oO rfl (mI rfl ?_)
    refine oO rfl (op_lookupNone un96 un23 zv99 rfl rfl H.own0 hfe ?_)
    refine oO rfl (op_moveT rfl ?_)
    refine oO rfl (xT rfl rfl ?_)
    refine oO rfl (xT rfl rfl ?_)
    refine oO rfl (op_alloc H zf99 (by omega) (fun b8 s1 H => ?_))
    refine oO rfl (op_store0 (vs := [.int _ _, .int _ _, .int _ _, .bool _, .slice _ _ _, .bool _, .slice _ _ _, .bool _, .slice _ _ _, .bool _, .slice _ _ _]) H sz99 rfl rfl rfl rfl rfl (by omega) (fun s2 H => ?_))
    refine oO rfl (aB rfl ?_)
    refine ops_nil ?_
    refine cR ?_
    refine oO rfl (mB rfl ?_)
    refine ops_nil ?_
    refine cE rfl ?_
    refine cw_skip ?_
    refine sN ?_
    refine cR ?_
    refine oO rfl (op_build (c := [.int _ _, .int _ _, .int _ _, .bool _, .slice _ _ _, .bool _, .slice _ _ _, .bool _, .slice _ _ _, .bool _, .slice _ _ _]) bf99 rfl ?_)
    refine oO rfl (op_alloc H zf99 (by omega) (fun b10 s3 H => ?_))
    refine oO rfl (op_store0 (vs := [.int _ _, .int _ _, .int _ _, .bool _, .slice _ _ _, .bool _, .slice _ _ _, .bool _, .slice _ _ _, .bool _, .slice _ _ _]) H sz99 rfl rfl rfl rfl rfl (by omega) (fun s4 H => ?_))
    refine ops_nil ?_
    refine cw_seq ?_
    refine cR ?_
    refine oO rfl (mI rfl ?_)
    refine oO rfl (lO sh24 rfl (by exact oldW H hst.gR hst.lJ hst.gJ) rfl ?_)
    refine oO rfl (lO sh23 rfl (by exact oldW H hst.gR hst.lB hst.gB) rfl ?_)
    refine oO rfl (oC rfl fc42 rfl ?_)
    obtain ⟨_, s9, hr, rfl, Hc⟩ := needs_ok (x := S) (bad := bad) hI H.fine (hst.sJ.keptW H hst.gR) hj hjl (by have := H.most; omega)
    refine ⟨_, _, hr, ?_⟩
    clear hr
    have H := H.call0 Hc
    clear Hc
    cases hnd : needsB S bad 0 js
    · refine oO rfl (op_not rfl ?_)
      refine ops_nil ?_
      refine cT rfl ?_
      refine cR ?_
      refine oO rfl (fA of99_0 rfl ?_)
      refine oO rfl (op_store0 (vs := [.int _ _]) H sz3 rfl rfl rfl rfl rfl (by omega) (fun s5 H => ?_))
      refine ops_nil ?_
      refine cR ?_
      refine oO rfl (lO sh96 rfl (by exact oldW H hst.gR hst.lK hst.gK) rfl ?_)
      refine oO rfl (mI rfl ?_)
      refine oO rfl (lN sh99 rfl (by exact H.own0) rfl ?_)
      refine oO rfl (op_update2 (e := ⟨S, 0, default⟩) H un96 un23 rfl rfl rfl hfe (by omega) (fun s34 H => ?_))
      refine ops_nil ?_
      refine cR ?_
      refine oO rfl (aC ?_)
      refine ops_nil ?_
      refine cw_ret ?_
      refine seq_ret ?_
      refine ret_end ?_
      refine end_t ?_
      have hv : ((0 : Int), (default : Sp)) = bb js bad may S := by rw [bb_eq hm hS, if_neg (by rw [hnd]; simp)]
      refine ⟨E ++ [⟨S, 0, default⟩], ?_, (H.drop0.drop0).up (by omega), hg.add (e := ⟨S, 0, default⟩) (not_key hfe) hv (fun h => by rw [hnd] at h; cases h), by rw [keys_app]; simp [keysE], [⟨S, 0, default⟩], rfl, ?_, by simp; omega⟩
      · rw [← hv]
        rfl
      · intro e he
        rw [List.mem_singleton] at he
        subst he
        exact ⟨⟨hS, Int.le_refl _⟩, .self⟩
    · refine oO rfl (op_not rfl ?_)
      refine ops_nil ?_
      refine cE rfl ?_
      refine cw_skip ?_
      refine sN ?_
      refine cw_seq ?_
      refine cR ?_
      refine oO rfl (lO sh25 rfl (by exact oldW H hst.gR hst.lM hst.gM) rfl ?_)
      refine oO rfl (op_len un25 rfl rfl rfl ?_)
      refine oO rfl (op_moveC ?_)
      refine ops_nil ?_
      refine cw_block ?_
      refine cw_loop (fun k F s1 => ∃ (G : FF) (i : Nat) (E1 X1 : List Ent) (acc : Int × Sp) (cnt : Nat), F = lay G [(0, .int .i64 S), (1, ptr bK), (2, ptr bJ), (3, ptr bB), (4, ptr bM), (5, ptr bF), (10, ptr b10), (35, .slice am may.length cm), (36, .int .i64 (may.length : Int)), (37, .int .i64 (i : Int))] ∧ HL [r] s s1 [(b10, .cells (.int .i64 acc.1 :: acc.2.cells) 99), (r, mapO E1)] cnt ∧ cnt ≤ 50 + i + tbs (tb may f) S (may.take i) ∧ Good js bad may E1 ∧ E1 = E ++ X1 ∧ (∀ e ∈ X1, (0 < e.k ∧ e.k < S) ∧ Rch js bad may S e.k) ∧ X1.length ≤ tbs (tb may f) S (may.take i) ∧ acc = (may.take i).foldl (stepB (fun y => (bb js bad may y).1) S) (65536, default) ∧ (∀ m ∈ may.take i, m.w = S → m.p ∈ keysE E1 ∧ andNotI S m.p ∈ keysE E1) ∧ i ≤ may.length ∧ k = may.length - i) ?_ may.length _ _ ?_
      · rintro k F s1 ⟨G, i, E1, X1, acc, cnt, rfl, H, hcnt, hg1, hE1, hX1, hXl, hacc, hcl, hi, rfl⟩
        have htk0 := tbs_le (may := may) (t := tb may f) (S := S) i
        refine cR ?_
        refine oO rfl (op_lss rfl rfl (fun h => ?_) (fun h => ?_))
        · refine ops_nil ?_
          refine cw_seq ?_
          refine cT rfl ?_
          refine cw_skip ?_
          refine sN ?_
          refine cw_seq ?_
          refine cw_block ?_
          obtain ⟨bm, ofm, cmm, rfl, hgm, hbm, hcm⟩ := (hst.sM.keptW H hst.gR).atS rfl (show i < may.length by omega)
          refine cR ?_
          refine oO rfl (op_indexS el25 rfl rfl (by omega) (by omega) ?_)
          refine oO rfl (lN sh62 rfl hgm hcm ?_)
          refine oO rfl (op_alloc H zf62 (by omega) (fun b12 s6 H => ?_))
          refine oO rfl (op_store0 (vs := [.int _ _, .int _ _, .bool _, .slice _ _ _, .bool _, .slice _ _ _, .bool _, .slice _ _ _, .bool _, .slice _ _ _]) H sz62 rfl rfl rfl rfl rfl (by omega) (fun s7 H => ?_))
          refine ops_nil ?_
          refine cw_seq ?_
          refine cR ?_
          refine oO rfl (fA of62_0 rfl ?_)
          refine oO rfl (lO sh23 rfl (by exact H.own0) rfl ?_)
          refine oO rfl (mI rfl ?_)
          refine oO rfl (op_neq rfl rfl (fun h => ?_) (fun h => ?_))
          · refine ops_nil ?_
            refine cT rfl ?_
            refine cw_exit ?_
            refine seq_exit ?_
            refine blk_here ?_
            refine sN ?_
            refine cG ?_
            refine oO rfl (op_add rfl rfl (by unfold In64; omega) ?_)
            refine oO rfl (mI rfl ?_)
            refine ops_nil ?_
            refine loop_norm ?_
            refine ⟨may.length - (i + 1), by omega, _, i + 1, E1, X1, acc, _, slots ⟨rfl, rfl, rfl, rfl, rfl, rfl, rfl, rfl, rfl, rfl, trivial⟩, H.drop0, ?_, hg1, hE1, hX1, by rw [tbs_take (show i < may.length by omega), if_neg h]; omega, ?_, ?_, by omega, rfl⟩
            · rw [tbs_take (show i < may.length by omega), if_neg h]
              omega
            · rw [foldl_take (show i < may.length by omega), ← hacc, stepB, if_pos h]
            · intro m hmm hw
              rcases mem_take_succ (show i < may.length by omega) hmm with hmm | hmm
              · exact hcl m hmm hw
              · subst hmm; exact absurd hw h
          · refine ops_nil ?_
            refine cE rfl ?_
            refine cw_skip ?_
            refine sN ?_
            have hxS : (may.getD i default).w = S := by simpa using h
            obtain ⟨hsp, hpb⟩ := hm (may.getD i default) (getD_mem (by omega))
            obtain ⟨hf1, hf2, hf3, hf4, hf5, hf6⟩ := split_facts hsp hpb
            rw [hxS] at hf2 hf3 hf4 hf5
            have htk := tbs_le (may := may) (t := tb may f) (S := S) (i + 1)
            rw [tbs_take (show i < may.length by omega), if_pos hxS] at htk
            have hr1 := bb_range (js := js) (bad := bad) (may := may) (may.getD i default).p
            have hr2 := bb_range (js := js) (bad := bad) (may := may) (andNotI S (may.getD i default).p)
            refine cw_dseq [⟨0, 0, .light, [2, 4, 7]⟩, ⟨1, 0, .light, [0, 4, 7]⟩, ⟨2, 2, .light, [0, 4, 7]⟩, ⟨4, 0, .light, [0, 2, 7]⟩, ⟨5, 0, .light, [0, 2, 4, 7]⟩, ⟨6, 0, .light, [0, 2, 4]⟩, ⟨7, 64, .light, [0, 2, 4]⟩, ⟨8, 224, .light, [0, 2, 4]⟩, ⟨3, 7, .whole, [4, 7]⟩, ⟨9, 511, .whole, []⟩, ⟨10, 1023, .light, []⟩, ⟨11, 2047, .light, []⟩] (by kernel_rfl) (by kernel_rfl) ?_
            refine dr_load1 rfl rfl sh97 rfl (by exact oldW H hst.gR hst.lF hst.gF) (by (have := hst.lF; omega)) rfl ?_
            refine dL rfl rfl (fA of62_1 rfl ⟨rfl, ?_⟩)
            refine dr_load1 rfl rfl sh23 rfl (by exact H.own0) (by exact H.lim0 (by omega)) rfl ?_
            refine dr_load1 rfl rfl sh97 rfl (by exact oldW H hst.gR hst.lF hst.gF) (by (have := hst.lF; omega)) rfl ?_
            refine dL rfl rfl (mI rfl ⟨rfl, ?_⟩)
            refine dL rfl rfl (fA of62_1 rfl ⟨rfl, ?_⟩)
            refine dr_load1 rfl rfl sh23 rfl (by exact H.own0) (by exact H.lim0 (by omega)) rfl ?_
            refine dL rfl rfl (op_andNot rfl rfl ⟨rfl, ?_⟩)
            refine dW rfl rfl (oC rfl fc41 rfl ?_)
            have hrF : r ≠ bF := fun e => by have h1 := hst.gR; have h2 := hst.gF; rw [e, h2] at h1; cases h1
            have hd := H.dist
            simp only [List.pairwise_cons, List.mem_cons, List.not_mem_nil, or_false, forall_eq_or_imp, forall_eq, false_imp_iff, implies_true] at hd
            have h12 := H.lt0
            have hlF := hst.lF
            have hle := H.le
            obtain ⟨_, s9, hr, E2, rfl, Hc, hg2, hk2, X2, hX2, hX2b, hX2l⟩ := ih (may.getD i default).p hf1 (by omega) _ E1 (Fine.narrow (X := [bF, b12]) H.fine (by intro p hp; simp only [List.mem_cons, List.not_mem_nil, or_false] at hp; omega)) (OfSt.narrow (X := [bF, b12]) (hst.later H (by simp)) (by simp only [List.mem_cons, List.not_mem_nil, or_false]; omega)) hg1 (by have := H.most; show _ + _ ≤ _; simp only; omega)
            refine ⟨_, _, hr, ?_⟩
            clear hr
            have H := HL.callW (A := [(r, mapO E1)]) (L := [_, _]) (HL.swap (A := [_, _]) (B := [_]) H) (HL.wider H.fine (Nat.le_refl _) (fun _ h => List.mem_append_right _ h) Hc) (by intro b hb; rw [List.mem_singleton] at hb; subst hb; exact ⟨_, List.mem_singleton.mpr rfl⟩) (by intro p hp; rw [List.mem_singleton] at hp; subst hp; simp)
            clear Hc
            simp only [List.cons_append, List.nil_append] at H
            refine dW rfl rfl (oC rfl fc41 rfl ?_)
            obtain ⟨_, s9, hr, E3, rfl, Hc, hg3, hk3, X3, hX3, hX3b, hX3l⟩ := ih (andNotI S (may.getD i default).p) hf3 (by omega) _ E2 H.fine (hst.later H (by simp)) hg2 (by have := H.most; omega)
            refine ⟨_, _, hr, ?_⟩
            clear hr
            have H := HL.callW (A := [(r, mapO E2)]) (L := [_, _]) H (HL.wider H.fine (Nat.le_refl _) (fun _ h => h) Hc) (by intro b hb; rw [List.mem_singleton] at hb; subst hb; exact ⟨_, List.mem_singleton.mpr rfl⟩) (by intro p hp; rw [List.mem_singleton] at hp; subst hp; simp)
            clear Hc
            simp only [List.cons_append, List.nil_append] at H
            subst hX3
            subst hX2
            subst hE1
            rw [List.append_assoc, List.append_assoc] at H hg3 hk3
            refine dL rfl rfl (aI rfl ⟨rfl, ?_⟩)
            refine dL rfl rfl (aI rfl ⟨rfl, ?_⟩)
            refine draw_nil ?_
            refine cR ?_
            refine oO rfl (mI rfl ?_)
            refine oO rfl (op_add rfl rfl (by unfold In64; omega) ?_)
            refine oO rfl (mI rfl ?_)
            refine oO rfl (op_add rfl rfl (by unfold In64; omega) ?_)
            refine oO rfl (aI rfl ?_)
            refine ops_nil ?_
            refine cR ?_
            refine oO rfl (mI rfl ?_)
            refine oO rfl (op_lss rfl rfl (fun h => ?_) (fun h => ?_))
            · refine oO rfl (mB rfl ?_)
              refine oO rfl (mI rfl ?_)
              refine oO rfl (op_lss rfl rfl (fun h => ?_) (fun h => ?_))
              · refine oO rfl (k1B rfl rfl ?_)
                refine oO rfl (mB rfl ?_)
                refine oO rfl (mI rfl ?_)
                refine oO rfl (fA of99_0 rfl ?_)
                refine oO rfl (lO sh3 rfl (by exact H.own2) rfl ?_)
                refine oO rfl (op_lss rfl rfl (fun h => ?_) (fun h => ?_))
                · refine oO rfl (k1B rfl rfl ?_)
                  refine ops_nil ?_
                  refine cT rfl ?_
                  refine cG ?_
                  refine oO rfl (mI rfl ?_)
                  refine oO rfl (lN sh62 rfl (by exact H.own1) rfl ?_)
                  refine oO rfl (op_build (c := [.int _ _, .int _ _, .int _ _, .bool _, .slice _ _ _, .bool _, .slice _ _ _, .bool _, .slice _ _ _, .bool _, .slice _ _ _]) bf99 rfl ?_)
                  refine oO rfl (op_store2 (vs := [.int _ _, .int _ _, .int _ _, .bool _, .slice _ _ _, .bool _, .slice _ _ _, .bool _, .slice _ _ _, .bool _, .slice _ _ _]) H sz99 rfl rfl rfl rfl rfl (by omega) (fun s8 H => ?_))
                  refine ops_nil ?_
                  refine blk_norm ?_
                  refine sN ?_
                  refine cG ?_
                  refine oO rfl (op_add rfl rfl (by unfold In64; omega) ?_)
                  refine oO rfl (mI rfl ?_)
                  refine ops_nil ?_
                  refine loop_norm ?_
                  refine ⟨may.length - (i + 1), by omega, _, i + 1, E ++ (X1 ++ (X2 ++ X3)), X1 ++ (X2 ++ X3), (1 + (bb js bad may (may.getD i default).p).1 + (bb js bad may (andNotI S (may.getD i default).p)).1, (may.getD i default)), _, slots ⟨rfl, rfl, rfl, rfl, rfl, rfl, rfl, rfl, rfl, rfl, trivial⟩, (HL.swap (A := [_]) (B := [_]) H.drop1), ?_, hg3, rfl, ?_, by rw [tbs_take (show i < may.length by omega), if_pos hxS]; simp only [List.length_append]; omega, ?_, ?_, by omega, rfl⟩
                  · rw [tbs_take (show i < may.length by omega), if_pos hxS]
                    omega
                  · intro e he
                    rcases List.mem_append.mp he with he | he
                    · exact hX1 e he
                    · rcases List.mem_append.mp he with he | he
                      · exact ⟨by have := (hX2b e he).1; omega, Rch.trans (Rch.part .self hnd (getD_mem (by omega)) hxS) (hX2b e he).2⟩
                      · exact ⟨by have := (hX3b e he).1; omega, Rch.trans (Rch.rest .self hnd (getD_mem (by omega)) hxS) (hX3b e he).2⟩
                  · rw [foldl_take (show i < may.length by omega), ← hacc, stepB, if_neg (by simpa using hxS)]
                    rw [if_pos ⟨by assumption, by assumption, by assumption⟩]
                  · intro m hmm hw
                    rcases mem_take_succ (show i < may.length by omega) hmm with hmm | hmm
                    · obtain ⟨q1, q2⟩ := hcl m hmm hw
                      rw [← List.append_assoc, keys_app]
                      exact ⟨List.mem_append_left _ q1, List.mem_append_left _ q2⟩
                    · subst hmm
                      refine ⟨?_, hk3⟩
                      rw [← List.append_assoc, ← List.append_assoc, keys_app]
                      exact List.mem_append_left _ hk2
                · refine oO rfl (k1B rfl rfl ?_)
                  refine ops_nil ?_
                  refine cE rfl ?_
                  refine cw_skip ?_
                  refine blk_norm ?_
                  refine sN ?_
                  refine cG ?_
                  refine oO rfl (op_add rfl rfl (by unfold In64; omega) ?_)
                  refine oO rfl (mI rfl ?_)
                  refine ops_nil ?_
                  refine loop_norm ?_
                  refine ⟨may.length - (i + 1), by omega, _, i + 1, E ++ (X1 ++ (X2 ++ X3)), X1 ++ (X2 ++ X3), acc, _, slots ⟨rfl, rfl, rfl, rfl, rfl, rfl, rfl, rfl, rfl, rfl, trivial⟩, (HL.swap (A := [_]) (B := [_]) H.drop1), ?_, hg3, rfl, ?_, by rw [tbs_take (show i < may.length by omega), if_pos hxS]; simp only [List.length_append]; omega, ?_, ?_, by omega, rfl⟩
                  · rw [tbs_take (show i < may.length by omega), if_pos hxS]
                    omega
                  · intro e he
                    rcases List.mem_append.mp he with he | he
                    · exact hX1 e he
                    · rcases List.mem_append.mp he with he | he
                      · exact ⟨by have := (hX2b e he).1; omega, Rch.trans (Rch.part .self hnd (getD_mem (by omega)) hxS) (hX2b e he).2⟩
                      · exact ⟨by have := (hX3b e he).1; omega, Rch.trans (Rch.rest .self hnd (getD_mem (by omega)) hxS) (hX3b e he).2⟩
                  · rw [foldl_take (show i < may.length by omega), ← hacc, stepB, if_neg (by simpa using hxS)]
                    rw [if_neg (fun hh => by first | exact absurd hh.1 (by assumption) | exact absurd hh.2.1 (by assumption) | exact absurd hh.2.2 (by assumption))]
                  · intro m hmm hw
                    rcases mem_take_succ (show i < may.length by omega) hmm with hmm | hmm
                    · obtain ⟨q1, q2⟩ := hcl m hmm hw
                      rw [← List.append_assoc, keys_app]
                      exact ⟨List.mem_append_left _ q1, List.mem_append_left _ q2⟩
                    · subst hmm
                      refine ⟨?_, hk3⟩
                      rw [← List.append_assoc, ← List.append_assoc, keys_app]
                      exact List.mem_append_left _ hk2
              · refine oO rfl (k1B rfl rfl ?_)
                refine oO rfl (mB rfl ?_)
                refine oF rfl ?_
                refine oF rfl ?_
                refine oF rfl ?_
                refine oF rfl ?_
                refine oO rfl (op_pick0C rfl ?_)
                refine ops_nil ?_
                refine cE rfl ?_
                refine cw_skip ?_
                refine blk_norm ?_
                refine sN ?_
                refine cG ?_
                refine oO rfl (op_add rfl rfl (by unfold In64; omega) ?_)
                refine oO rfl (mI rfl ?_)
                refine ops_nil ?_
                refine loop_norm ?_
                refine ⟨may.length - (i + 1), by omega, _, i + 1, E ++ (X1 ++ (X2 ++ X3)), X1 ++ (X2 ++ X3), acc, _, slots ⟨rfl, rfl, rfl, rfl, rfl, rfl, rfl, rfl, rfl, rfl, trivial⟩, (HL.swap (A := [_]) (B := [_]) H.drop1), ?_, hg3, rfl, ?_, by rw [tbs_take (show i < may.length by omega), if_pos hxS]; simp only [List.length_append]; omega, ?_, ?_, by omega, rfl⟩
                · rw [tbs_take (show i < may.length by omega), if_pos hxS]
                  omega
                · intro e he
                  rcases List.mem_append.mp he with he | he
                  · exact hX1 e he
                  · rcases List.mem_append.mp he with he | he
                    · exact ⟨by have := (hX2b e he).1; omega, Rch.trans (Rch.part .self hnd (getD_mem (by omega)) hxS) (hX2b e he).2⟩
                    · exact ⟨by have := (hX3b e he).1; omega, Rch.trans (Rch.rest .self hnd (getD_mem (by omega)) hxS) (hX3b e he).2⟩
                · rw [foldl_take (show i < may.length by omega), ← hacc, stepB, if_neg (by simpa using hxS)]
                  rw [if_neg (fun hh => by first | exact absurd hh.1 (by assumption) | exact absurd hh.2.1 (by assumption) | exact absurd hh.2.2 (by assumption))]
                · intro m hmm hw
                  rcases mem_take_succ (show i < may.length by omega) hmm with hmm | hmm
                  · obtain ⟨q1, q2⟩ := hcl m hmm hw
                    rw [← List.append_assoc, keys_app]
                    exact ⟨List.mem_append_left _ q1, List.mem_append_left _ q2⟩
                  · subst hmm
                    refine ⟨?_, hk3⟩
                    rw [← List.append_assoc, ← List.append_assoc, keys_app]
                    exact List.mem_append_left _ hk2
            · refine oO rfl (mB rfl ?_)
              refine oF rfl ?_
              refine oF rfl ?_
              refine oO rfl (op_pick0C rfl ?_)
              refine oO rfl (mB rfl ?_)
              refine oF rfl ?_
              refine oF rfl ?_
              refine oF rfl ?_
              refine oF rfl ?_
              refine oO rfl (op_pick0C rfl ?_)
              refine ops_nil ?_
              refine cE rfl ?_
              refine cw_skip ?_
              refine blk_norm ?_
              refine sN ?_
              refine cG ?_
              refine oO rfl (op_add rfl rfl (by unfold In64; omega) ?_)
              refine oO rfl (mI rfl ?_)
              refine ops_nil ?_
              refine loop_norm ?_
              refine ⟨may.length - (i + 1), by omega, _, i + 1, E ++ (X1 ++ (X2 ++ X3)), X1 ++ (X2 ++ X3), acc, _, slots ⟨rfl, rfl, rfl, rfl, rfl, rfl, rfl, rfl, rfl, rfl, trivial⟩, (HL.swap (A := [_]) (B := [_]) H.drop1), ?_, hg3, rfl, ?_, by rw [tbs_take (show i < may.length by omega), if_pos hxS]; simp only [List.length_append]; omega, ?_, ?_, by omega, rfl⟩
              · rw [tbs_take (show i < may.length by omega), if_pos hxS]
                omega
              · intro e he
                rcases List.mem_append.mp he with he | he
                · exact hX1 e he
                · rcases List.mem_append.mp he with he | he
                  · exact ⟨by have := (hX2b e he).1; omega, Rch.trans (Rch.part .self hnd (getD_mem (by omega)) hxS) (hX2b e he).2⟩
                  · exact ⟨by have := (hX3b e he).1; omega, Rch.trans (Rch.rest .self hnd (getD_mem (by omega)) hxS) (hX3b e he).2⟩
              · rw [foldl_take (show i < may.length by omega), ← hacc, stepB, if_neg (by simpa using hxS)]
                rw [if_neg (fun hh => by first | exact absurd hh.1 (by assumption) | exact absurd hh.2.1 (by assumption) | exact absurd hh.2.2 (by assumption))]
              · intro m hmm hw
                rcases mem_take_succ (show i < may.length by omega) hmm with hmm | hmm
                · obtain ⟨q1, q2⟩ := hcl m hmm hw
                  rw [← List.append_assoc, keys_app]
                  exact ⟨List.mem_append_left _ q1, List.mem_append_left _ q2⟩
                · subst hmm
                  refine ⟨?_, hk3⟩
                  rw [← List.append_assoc, ← List.append_assoc, keys_app]
                  exact List.mem_append_left _ hk2
        · refine ops_nil ?_
          refine cw_seq ?_
          refine cE rfl ?_
          refine cw_exit ?_
          refine seq_exit ?_
          refine loop_exit ?_
          refine blk_here ?_
          refine sN ?_
          have hnf : findE E1 S = none := by
            refine find_none_of fun hk => ?_
            rw [hE1, keys_app, List.mem_append] at hk
            rcases hk with hk | hk
            · exact not_key hfe hk
            · obtain ⟨e, he, hek⟩ := List.mem_map.mp hk
              have := (hX1 e he).1
              omega
          refine cR ?_
          refine oO rfl (lO sh96 rfl (by exact oldW H hst.gR hst.lK hst.gK) rfl ?_)
          refine oO rfl (mI rfl ?_)
          refine oO rfl (lN sh99 rfl (by exact H.own0) rfl ?_)
          refine oO rfl (op_update1 (e := ⟨S, acc.1, acc.2⟩) H un96 un23 rfl rfl rfl hnf (by have := tbs_le (may := may) (t := tb may f) (S := S) i; omega) (fun s77 H => ?_))
          refine ops_nil ?_
          refine cR ?_
          refine oO rfl (fA of99_0 rfl ?_)
          refine oO rfl (lO sh3 rfl (by exact H.own0) rfl ?_)
          refine oO rfl (aI rfl ?_)
          refine ops_nil ?_
          refine cw_ret ?_
          refine ret_end ?_
          refine end_t ?_
          have hi2 : i = may.length := by omega
          rw [hi2, List.take_length] at hacc hcl
          have hv : (acc.1, acc.2) = bb js bad may S := by rw [bb_eq hm hS, if_pos hnd, ← hacc]
          refine ⟨E1 ++ [⟨S, acc.1, acc.2⟩], ?_, H.drop0.up (by have := tbs_le (may := may) (t := tb may f) (S := S) i; omega), hg1.add (e := ⟨S, acc.1, acc.2⟩) (not_key hnf) hv (fun _ m hmm hw => hcl m hmm hw), by rw [keys_app]; simp [keysE], X1 ++ [⟨S, acc.1, acc.2⟩], by rw [hE1, List.append_assoc], ?_, by have := tbs_le (may := may) (t := tb may f) (S := S) i; simp only [List.length_append, List.length_singleton]; omega⟩
          · rw [← hv]
            rfl
          · intro e he
            rcases List.mem_append.mp he with he | he
            · exact ⟨by have := (hX1 e he).1; omega, (hX1 e he).2⟩
            · rw [List.mem_singleton] at he
              subst he
              exact ⟨⟨hS, Int.le_refl _⟩, .self⟩
      · refine ⟨_, 0, E, [], (65536, default), _, slots ⟨rfl, rfl, rfl, rfl, rfl, rfl, rfl, rfl, rfl, rfl, trivial⟩, H.drop1, by simp [tbs], hg, by simp, (by intro e he; cases he), by simp, rfl, (by intro m hmm; simp at hmm), by omega, by omega⟩
  · refine cR ?_
    refine oO rfl (lO sh96 rfl (by exact oldW H hst.gR hst.lK hst.gK) rfl ?_)
    refine oO rfl (mI rfl ?_)
    refine oO rfl (op_lookupSome (e := e) un96 un23 rfl rfl H.own0 hfe ?_)
    refine oO rfl (op_moveT rfl ?_)
    refine oO rfl (xT rfl rfl ?_)
    refine oO rfl (xT rfl rfl ?_)
    refine oO rfl (op_alloc H zf99 (by omega) (fun b8 s9 H => ?_))
    refine oO rfl (op_store0 (vs := [.int _ _, .int _ _, .int _ _, .bool _, .slice _ _ _, .bool _, .slice _ _ _, .bool _, .slice _ _ _, .bool _, .slice _ _ _]) H sz99 rfl rfl rfl rfl rfl (by omega) (fun s10 H => ?_))
    refine oO rfl (aB rfl ?_)
    refine ops_nil ?_
    refine cR ?_
    refine oO rfl (mB rfl ?_)
    refine ops_nil ?_
    refine cT rfl ?_
    refine cR ?_
    refine oO rfl (fA of99_0 rfl ?_)
    refine oO rfl (lO sh3 rfl (by exact H.own0) rfl ?_)
    refine oO rfl (aI rfl ?_)
    refine ops_nil ?_
    refine cw_ret ?_
    refine seq_ret ?_
    refine ret_end ?_
    refine end_t ?_
    obtain ⟨he1, he2⟩ := of_find hfe
    have hv := hg.val e he1
    rw [he2] at hv
    refine ⟨E, ?_, H.drop0.up (by omega), hg, key_of_find hfe, [], by simp, (by intro e he; cases he), by simp⟩
    show Value.int .i64 e.n = _
    rw [← hv]

theorem of_ok {I : Table} (hI : Plain I) {js : List (Int × Int)} {bad : Int} {may : List Sp} (hj : ∀ j ∈ js, joinB j) (hjl : js.length ≤ 16) (hm : MayOK may) (hml : may.length ≤ 4096) {r bK bJ bB bM bF : Nat} {vj vm : Value} : ∀ f, OfC I js bad may r bK bJ bB bM bF vj vm f
  | 0 => fun S _ h => by omega
  | f + 1 => of_step hI hj hjl hm hml (of_ok hI hj hjl hm hml f)

end Go.Proofs.YtdejleegamcioaaGreat
namespace Go.Proofs.YtdejleegamcioaaGreat
open Go Go.M
section
variable {js : List (Int × Int)} {bad : Int} {may : List Sp}
theorem fold_from {v : Int → Int} {S : Int} : ∀ (l : List Sp) (acc : Int × Sp), l.foldl (stepB v S) acc = acc ∨ ∃ m ∈ l, m.w = S ∧ v m.p < 65536 ∧ v (andNotI S m.p) < 65536 ∧ l.foldl (stepB v S) acc = (1 + v m.p + v (andNotI S m.p), m)
  | [], acc => .inl rfl
  | m :: l, acc => by
    simp only [List.foldl_cons]
    rcases fold_from l (stepB v S acc m) with h | ⟨x, hx, h⟩
    · rw [h]
      unfold stepB
      by_cases hw : m.w = S
      · rw [if_neg (by simpa using hw)]
        split
        · next hc => exact .inr ⟨m, by simp, hw, hc.1, hc.2.1, rfl⟩
        · exact .inl rfl
      · rw [if_pos hw]; exact .inl rfl
    · exact .inr ⟨x, by simp [hx], h⟩
theorem bb_split (hm : MayOK may) {S : Int} (h0 : 0 < S) (h1 : 0 < (bb js bad may S).1) (h2 : (bb js bad may S).1 < 65536) : needsB S bad 0 js = true ∧ (bb js bad may S).2 ∈ may ∧ (bb js bad may S).2.w = S ∧ (bb js bad may (bb js bad may S).2.p).1 < 65536 ∧ (bb js bad may (andNotI S (bb js bad may S).2.p)).1 < 65536 ∧
    (bb js bad may S).1 = 1 + (bb js bad may (bb js bad may S).2.p).1 + (bb js bad may (andNotI S (bb js bad may S).2.p)).1 := by
  have he := bb_eq (js := js) (bad := bad) hm h0
  by_cases hn : needsB S bad 0 js = true
  · rw [if_pos hn] at he
    rcases fold_from (v := fun x => (bb js bad may x).1) (S := S) may (65536, default) with h | ⟨m, hmm, hw, ha, hb, h⟩
    · rw [he, h] at h2; simp at h2
    · rw [h] at he
      rw [he]
      exact ⟨hn, hmm, hw, ha, hb, rfl⟩
  · rw [if_neg hn] at he
    rw [he] at h1
    simp at h1
/-- The splits, one after the other. -/
def tk (js : List (Int × Int)) (bad : Int) (may : List Sp) : Nat → Int → List Sp
  | 0, _ => []
  | f + 1, S => if 0 < (bb js bad may S).1 then (bb js bad may S).2 :: (tk js bad may f (bb js bad may S).2.p ++ tk js bad may f (andNotI S (bb js bad may S).2.p)) else []
end
abbrev keysH (D : Hp') : List Nat := D.map (·.1)
/-- What 'take' sees. -/
structure TkSt (s : St) (r bK bO bT : Nat) (E : List Ent) (D : Hp') (so : Slc) (l : List Sp) : Prop where
  gK : s.get bK = some (.cells [.map (some r)] 96)
  lK : bK < s.next
  gT : s.get bT = some (.cells [.func (.func 44) #[] #[ptr bK, ptr bO, ptr bT]] 103)
  lT : bT < s.next
  gR : s.get r = some (mapO E)
  lR : r < s.next
  own : ∀ p, p ∈ ((bO, .cells [so.v] 25) :: D : Hp') → s.get p.1 = some p.2 ∧ p.1 < s.next ∧ s.may p.1 = true
  dist : ((bO, .cells [so.v] 25) :: D : Hp').Pairwise fun p q => p.1 ≠ q.1
  isO : Own 62 10 D so.v (spsC l) l.length
section
variable {s s' : St} {r bK bO bT : Nat} {E : List Ent} {D D' : Hp'} {so so' : Slc} {l l' : List Sp} {L : Hp'} {n : Nat}
theorem TkSt.elem (h : TkSt s r bK bO bT E D so l) {p : Nat × MObj} (hp : p ∈ ((bO, .cells [so.v] 25) :: D : Hp')) : ∃ c e, p.2 = .cells c e ∧ (e = 25 ∨ e = 62) := by
  rcases List.mem_cons.mp hp with rfl | hp
  · exact ⟨_, _, rfl, .inl rfl⟩
  · have ho := h.isO
    generalize spsC l = cc at ho
    generalize l.length = ll at ho
    generalize so.v = vv at ho
    cases ho with
    | nil => cases hp
    | block b cap c len hl hcap =>
      rw [List.mem_singleton] at hp
      subst hp
      exact ⟨_, _, rfl, .inr rfl⟩
theorem TkSt.notin (h : TkSt s r bK bO bT E D so l) {b : Nat} {o : MObj} (hg : s.get b = some o) (ho : ∀ c, o ≠ .cells c 25 ∧ o ≠ .cells c 62) : b ∉ bO :: keysH D := by
  intro hb
  have : b ∈ keysH ((bO, .cells [so.v] 25) :: D) := by simpa using hb
  obtain ⟨p, hp, rfl⟩ := List.mem_map.mp this
  have h1 := (h.own p hp).1
  rw [hg, Option.some.injEq] at h1
  obtain ⟨c, e, h2, h3⟩ := h.elem hp
  rw [h2] at h1
  rcases h3 with rfl | rfl
  · exact (ho c).1 h1
  · exact (ho c).2 h1
theorem TkSt.oldK (h : TkSt s r bK bO bT E D so l) (H : HL (bO :: keysH D) s s' L n) : s'.get bK = some (.cells [.map (some r)] 96) := by
  rw [H.kept _ h.lK (h.notin h.gK (by intro c; constructor <;> simp))]; exact h.gK
theorem TkSt.oldT (h : TkSt s r bK bO bT E D so l) (H : HL (bO :: keysH D) s s' L n) : s'.get bT = some (.cells [.func (.func 44) #[] #[ptr bK, ptr bO, ptr bT]] 103) := by
  rw [H.kept _ h.lT (h.notin h.gT (by intro c; constructor <;> simp))]; exact h.gT
theorem TkSt.oldR (h : TkSt s r bK bO bT E D so l) (H : HL (bO :: keysH D) s s' L n) : s'.get r = some (mapO E) := by
  rw [H.kept _ h.lR (h.notin h.gR (by intro c; constructor <;> simp [mapO]))]; exact h.gR
theorem TkSt.hl (h : TkSt s r bK bO bT E D so l) (hf : Fine s) : HL (bO :: keysH D) s s ((bO, .cells [so.v] 25) :: D) 0 :=
  ⟨rfl, rfl, hf.wfb, hf.wfp, Nat.le_refl _, Nat.le_refl _, fun p hp => ⟨(h.own p hp).1, (h.own p hp).2.1, (h.own p hp).2.2, .inr (by
    have : p.1 ∈ keysH ((bO, .cells [so.v] 25) :: D) := List.mem_map.mpr ⟨p, hp, rfl⟩
    simpa using this)⟩, h.dist, fun _ _ _ => rfl⟩
theorem TkSt.later (h : TkSt s r bK bO bT E D so l) (H : HL (bO :: keysH D) s s' L n) (hs : ((bO, .cells [so'.v] 25) :: D').Sublist L) (ho : Own 62 10 D' so'.v (spsC l') l'.length) : TkSt s' r bK bO bT E D' so' l' := by
  have hle := H.le
  refine ⟨h.oldK H, by have := h.lK; omega, h.oldT H, by have := h.lT; omega, h.oldR H, by have := h.lR; omega, fun p hp => ?_, H.dist.sublist hs, ho⟩
  obtain ⟨h1, h2, h3, _⟩ := H.own p (hs.subset hp)
  exact ⟨h1, h2, h3⟩
end
end Go.Proofs.YtdejleegamcioaaGreat
namespace Go.Proofs.YtdejleegamcioaaGreat
open Go Go.M

theorem fb44 : funcB Tryz.f44 (Tryz.f44.body.getD .skip) 4 = true := by kernel_rfl
theorem fc44 : funcF Tryz.prog 44 = true := by kernel_rfl
theorem of99_1 : offF Tryz.prog 99 1 = some 1 := by kernel_rfl
theorem sh103 : shapeOf Tryz.prog 103 = some (none) := by kernel_rfl

def TkC (I : Table) (js : List (Int × Int)) (bad : Int) (may : List Sp) (r bK bO bT : Nat) (E : List Ent) (f : Nat) : Prop :=
  ∀ (S : Int), 0 < S → S.toNat < f → S ∈ keysE E → (bb js bad may S).1 < 65536 → ∀ (s : St) (D : Hp') (so : Slc) (l : List Sp), Fine s → TkSt s r bK bO bT E D so l → (l.length : Int) + (bb js bad may S).1 ≤ 70000 → s.next + 3 * (2 * (bb js bad may S).1.toNat + 1) ≤ limit →
    ∃ v' s', Rets Tryz.prog I 44 #[.int .i64 S, ptr bK, ptr bO, ptr bT] s v' s' ∧ (∃ D' so', v' = .tuple ⟨[]⟩ ∧ HL (bO :: keysH D) s s' ((bO, .cells [Slc.v so'] 25) :: D') (3 * (2 * (bb js bad may S).1.toNat + 1)) ∧ Own 62 10 D' so'.v (spsC (l ++ tk js bad may f S)) (l ++ tk js bad may f S).length)
theorem tk_len {js : List (Int × Int)} {bad : Int} {may : List Sp} (hm : MayOK may) : ∀ (f : Nat) (S : Int), 0 < S → S.toNat < f → (bb js bad may S).1 < 65536 → ((tk js bad may f S).length : Int) = (bb js bad may S).1
  | 0, S, _, h, _ => by omega
  | f + 1, S, h0, h1, h2 => by
    have hr := bb_range (js := js) (bad := bad) (may := may) S
    simp only [tk]
    split
    · next hp =>
      obtain ⟨hn, hx, hw, ha, hb, he⟩ := bb_split hm h0 hp h2
      obtain ⟨hs, hpb⟩ := hm _ hx
      obtain ⟨q1, q2, q3, q4, q5, q6⟩ := split_facts hs hpb
      rw [hw] at q2 q3 q4
      have i1 := tk_len hm f (bb js bad may S).2.p q1 (by omega) ha
      have i2 := tk_len hm f (andNotI S (bb js bad may S).2.p) q3 (by omega) hb
      simp only [List.length_cons, List.length_append]
      omega
    · simp only [List.length_nil]; omega
theorem ptr_ne {s : St} {b b' : Nat} {o o' : MObj} (h1 : s.get b = some o) (h2 : s.get b' = some o') (hne : o ≠ o') : b ≠ b' := fun e => by
  rw [e, h2, Option.some.injEq] at h1
  exact hne h1.symm

set_option maxHeartbeats 4000000 in
set_option maxRecDepth 10000 in
theorem take_step {I : Table} (hI : Plain I) {js : List (Int × Int)} {bad : Int} {may : List Sp} (hm : MayOK may) {r bK bO bT : Nat} {E : List Ent} (hg : Good js bad may E) {f : Nat} (ih : TkC I js bad may r bK bO bT E f) : TkC I js bad may r bK bO bT E (f + 1) := by
  intro S hS hSf hSE hS6 s D so l hf hst hln hroom
  have H := hst.hl hf
  have hrg := bb_range (js := js) (bad := bad) (may := may) S
  obtain ⟨e, hfe⟩ := find_of_key hSE
  obtain ⟨he1, he2⟩ := of_find hfe
  have hv := hg.val e he1
  rw [he2] at hv
  have hvn : e.n = (bb js bad may S).1 := by rw [← hv]
  have hvx : e.x = (bb js bad may S).2 := by rw [← hv]
  obtain ⟨soa, son, soc⟩ := so
  refine call_of 4 (hI 44 (by decide) (by decide)) Tryz.func44 rfl fb44 rfl ?_
  refine cR ?_
  refine oO rfl (lO sh96 rfl (by exact hst.oldK H) rfl ?_)
  refine oO rfl (mI rfl ?_)
  refine oO rfl (op_lookupSome (e := e) un96 un23 rfl rfl (hst.oldR H) hfe ?_)
  refine oO rfl (op_alloc H zf99 (by omega) (fun b5 s1 H => ?_))
  refine oO rfl (op_store0 (vs := [.int _ _, .int _ _, .int _ _, .bool _, .slice _ _ _, .bool _, .slice _ _ _, .bool _, .slice _ _ _, .bool _, .slice _ _ _]) H sz99 rfl rfl rfl rfl rfl (by omega) (fun s2 H => ?_))
  refine ops_nil ?_
  refine cR ?_
  refine oO rfl (fA of99_0 rfl ?_)
  refine oO rfl (lO sh3 rfl (by exact H.own0) rfl ?_)
  refine oO rfl (op_gtr rfl rfl (fun h => ?_) (fun h => ?_))
  · refine ops_nil ?_
    refine cT rfl ?_
    obtain ⟨hn, hx, hw, ha, hb, hbe⟩ := bb_split hm hS (by omega) hS6
    obtain ⟨hs1, hpb⟩ := hm _ hx
    obtain ⟨q1, q2, q3, q4, q5, q6⟩ := split_facts hs1 hpb
    rw [hw] at q2 q3 q4
    rw [← hvx] at q1 q2 q3 q4
    obtain ⟨k1, k2⟩ := hg.clo e he1 (by rw [he2]; exact hn) e.x (by rw [hvx]; exact hx) (by rw [hvx, he2]; exact hw)
    rw [he2] at k2
    have hra := bb_range (js := js) (bad := bad) (may := may) (bb js bad may S).2.p
    have hrb := bb_range (js := js) (bad := bad) (may := may) (andNotI S (bb js bad may S).2.p)
    refine cR ?_
    refine oO rfl (lO sh25 rfl (by exact H.own1) rfl ?_)
    refine oO rfl (fA of99_1 rfl ?_)
    refine oO rfl (lN sh62 rfl (by exact H.own0) rfl ?_)
    refine oO rfl (op_buildSlice (c := [.int _ _, .int _ _, .bool _, .slice _ _ _, .bool _, .slice _ _ _, .bool _, .slice _ _ _, .bool _, .slice _ _ _]) H sl25 rfl rfl (by omega) (fun b15 s3 H => ?_))
    have hgt := H.own0
    have H := HL.swap (A := [_, _]) (B := D) H.drop0
    refine oO rfl (op_appendOwn H hst.isO sl25 un25 rfl rfl rfl (elems_all hgt rfl) (by decide) rfl rfl (by omega) (by omega) (fun b16 s16 H ho => ?_))
    refine oO rfl (op_store2 (vs := [.slice _ _ _]) H sz25 rfl rfl rfl rfl rfl (by omega) (fun s4 H => ?_))
    refine ops_nil ?_
    have hoo : Own 62 10 [(b16, .cells (spsC l ++ e.x.cells) 62)] (Slc.v ⟨some ⟨b16, 0, none⟩, l.length + 1, 2 * (l.length + 1) + 1⟩) (spsC (l ++ [e.x])) (l ++ [e.x]).length := by
      rw [show spsC (l ++ [e.x]) = spsC l ++ e.x.cells from flat_snoc, List.length_append]
      exact ho
    have H : HL (bO :: keysH D) s _ [(b5, _), (bO, .cells [Slc.v ⟨some ⟨b16, 0, none⟩, l.length + 1, 2 * (l.length + 1) + 1⟩] 25), (b16, .cells (spsC l ++ e.x.cells) 62)] _ := HL.swap (A := [_]) (B := [_, _]) H
    refine cR ?_
    refine oO rfl (lO sh103 rfl (by exact hst.oldT H) rfl ?_)
    refine oO rfl (fA of99_1 rfl ?_)
    refine oO rfl (fA of62_1 rfl ?_)
    refine oO rfl (lO sh23 rfl (by exact H.own0) rfl ?_)
    refine oO rfl (oC rfl fc44 rfl ?_)
    obtain ⟨_, s9, hr, D2, so2, rfl, Hc, ho2⟩ := ih e.x.p q1 (by omega) k1 (by rw [hvx]; exact ha) _ [(b16, .cells (spsC l ++ e.x.cells) 62)] ⟨some ⟨b16, 0, none⟩, l.length + 1, 2 * (l.length + 1) + 1⟩ (l ++ [e.x]) H.fine (hst.later H (.cons _ (List.Sublist.refl _)) hoo) (by simp only [List.length_append, List.length_singleton]; rw [hvx]; omega) (by have := H.most; rw [hvx]; omega)
    refine ⟨_, _, hr, ?_⟩
    clear hr
    have H := HL.callW (A := [_, _]) (L := [_]) (HL.swap (A := [_]) (B := [_, _]) H) Hc (by intro b hb; simp only [List.mem_cons, List.map_cons, List.map_nil, List.not_mem_nil, or_false] at hb; rcases hb with rfl | rfl; { exact ⟨_, List.mem_cons_self⟩ }; { exact ⟨_, List.mem_cons_of_mem _ List.mem_cons_self⟩ }) (by intro p hp; have := List.mem_map_of_mem (f := Prod.fst) hp; exact this)
    clear Hc
    have H := HL.swap (A := _ :: D2) (B := [_]) H
    refine ops_nil ?_
    refine cG ?_
    refine oO rfl (lO sh103 rfl (by exact hst.oldT H) rfl ?_)
    refine oO rfl (mI rfl ?_)
    refine oO rfl (fA of99_1 rfl ?_)
    refine oO rfl (fA of62_1 rfl ?_)
    refine oO rfl (lO sh23 rfl (by exact H.own0) rfl ?_)
    refine oO rfl (op_andNot rfl rfl ?_)
    refine oO rfl (oC rfl fc44 rfl ?_)
    obtain ⟨_, s9, hr, D3, so3, rfl, Hc, ho3⟩ := ih (andNotI S e.x.p) q3 (by omega) k2 (by rw [hvx]; exact hb) _ D2 so2 ((l ++ [e.x]) ++ tk js bad may f e.x.p) H.fine (hst.later H (.cons _ (List.Sublist.refl _)) ho2) (by simp only [List.length_append, List.length_singleton]; have := tk_len hm f e.x.p q1 (by omega) (by rw [hvx]; exact ha); rw [hvx] at this ⊢; omega) (by have := H.most; rw [hvx] at this ⊢; omega)
    refine ⟨_, _, hr, ?_⟩
    clear hr
    have H := HL.callW (A := _ :: D2) (L := [_]) (HL.swap (A := [_]) (B := _ :: D2) H) Hc (by intro b hb; obtain ⟨p, hp, rfl⟩ := List.mem_map.mp (show b ∈ keysH ((bO, .cells [Slc.v so2] 25) :: D2) from hb); exact ⟨p.2, hp⟩) (by intro p hp; have := List.mem_map_of_mem (f := Prod.fst) hp; exact this)
    clear Hc
    refine ops_nil ?_
    refine nrm_end ?_
    refine end_nil ?_
    refine ⟨D3, so3, rfl, H.left.up (by rw [hvx] at *; omega), ?_⟩
    rw [tk, if_pos (by omega)]
    rw [hvx, List.append_assoc, List.append_assoc] at ho3
    exact ho3
  · refine ops_nil ?_
    refine cE rfl ?_
    refine cw_skip ?_
    refine nrm_end ?_
    refine end_nil ?_
    refine ⟨D, ⟨soa, son, soc⟩, rfl, H.drop0.up (by omega), ?_⟩
    rw [tk, if_neg (by omega), List.append_nil]
    exact hst.isO

theorem take_ok {I : Table} (hI : Plain I) {js : List (Int × Int)} {bad : Int} {may : List Sp} (hm : MayOK may) {r bK bO bT : Nat} {E : List Ent} (hg : Good js bad may E) : ∀ f, TkC I js bad may r bK bO bT E f
  | 0 => fun S _ h => by omega
  | f + 1 => take_step hI hm hg (take_ok hI hm hg f)

end Go.Proofs.YtdejleegamcioaaGreat
namespace Go.Proofs.YtdejleegamcioaaGreat
open Go Go.M

theorem valid_split {w p : Int} (h : validB w p = true) : splitB w p = true ∧ p < 9223372036854775808 := by
  simp only [validB, Bool.and_eq_true, decide_eq_true_eq] at h
  obtain ⟨⟨⟨⟨h1, h2⟩, h3, h4⟩, h5⟩, h6⟩ := h
  refine ⟨?_, by omega⟩
  obtain ⟨a, rfl⟩ := Int.eq_ofNat_of_zero_le (show 0 ≤ w by omega)
  obtain ⟨b, rfl⟩ := Int.eq_ofNat_of_zero_le (show 0 ≤ p by omega)
  have ha := ofInt_nat (a := a) (by omega)
  have hb := ofInt_nat (a := b) (by omega)
  have hz : BitVec.ofInt 64 (b : Int) &&& BitVec.ofInt 64 (a : Int) = BitVec.ofInt 64 (b : Int) := by
    apply BitVec.eq_of_toNat_eq
    rw [andI_nat (by omega) (by omega)] at h5
    rw [BitVec.toNat_and, ha, hb]
    omega
  have hz2 : BitVec.ofInt 64 (b : Int) &&& ~~~ BitVec.ofInt 64 (a : Int) = 0#64 := by
    rw [← hz, BitVec.and_assoc]
    simp
  have hr : andNotI (b : Int) (a : Int) = 0 := by
    unfold andNotI bitsI
    simp only
    rw [hz2]
    decide
  simp only [splitB, Bool.and_eq_true, decide_eq_true_eq]
  exact ⟨⟨⟨⟨by omega, by omega⟩, by omega⟩, hr⟩, h6⟩

end Go.Proofs.YtdejleegamcioaaGreat
namespace Go.Proofs.YtdejleegamcioaaGreat
open Go Go.M



/-- The examples of the section. -/
def LivesC (I : Table) : Prop := ∀ (s : St), Fine s → s.next + 1000000 ≤ limit → ∃ v' s', Rets Tryz.prog I 17 #[] s v' s' ∧ (v' = .bool true ∧ HL [] s s' [] 1000000)
theorem jcsG {b cap : Nat} {l : List (Int × Int)} (hcap : l.length ≤ cap / 2) : SlG [(b, .cells ((l.map jc).flatten) 30)] 30 2 (.slice (some ⟨b, 0, none⟩) l.length cap) (l.map jc) := by
  refine SlG.block b 0 cap ((l.map jc).flatten) (by simp) (by simp) (by simpa using hcap) fun k hk => ?_
  exact flat_get (by intro x hx; obtain ⟨y, _, rfl⟩ := List.mem_map.mp hx; rfl) hk
theorem SlG.slc {D : Hp'} {e : TypeId} {sz : Nat} {x : Slc} {es : List (List Value)} (h : SlG D e sz x.v es) : x.n = es.length := by
  cases h with
  | nil c hv hl => subst hl; simp only [Slc.v, Value.slice.injEq] at hv; exact hv.2.1
  | block b off cap c hv => simp only [Slc.v, Value.slice.injEq] at hv; exact hv.2.1
theorem zeros20 : repL [.int .i64 0, .int .i64 0] 20 = ((List.replicate 20 ((0 : Int), (0 : Int))).map jc).flatten := rfl

end Go.Proofs.YtdejleegamcioaaGreat
namespace Go.Proofs.YtdejleegamcioaaGreat
open Go Go.M
section
def cntLe (S : Int) (l : List Sp) : Nat := (l.filter fun m => decide (m.w ≤ S)).length
def cntEq (S : Int) (l : List Sp) : Nat := (l.filter fun m => decide (m.w = S)).length
theorem cnt_step (S : Int) : ∀ l : List Sp, cntLe S l = cntLe (S - 1) l + cntEq S l
  | [] => rfl
  | m :: l => by
    have ih := cnt_step S l
    simp only [cntLe, cntEq, List.filter_cons] at ih ⊢
    by_cases h1 : m.w = S
    · rw [if_pos (by simp; omega), if_neg (by simp; omega), if_pos (by simp; omega)]
      simp only [List.length_cons]; omega
    · by_cases h2 : m.w ≤ S
      · rw [if_pos (by simp; omega), if_pos (by simp; omega), if_neg (by simp; omega)]
        simp only [List.length_cons]; omega
      · rw [if_neg (by simp; omega), if_neg (by simp; omega), if_neg (by simp; omega)]
        omega
theorem cntLe_mono {S T : Int} (h : S ≤ T) : ∀ l : List Sp, cntLe S l ≤ cntLe T l
  | [] => Nat.le_refl _
  | m :: l => by
    have ih := cntLe_mono h l
    simp only [cntLe, List.filter_cons] at ih ⊢
    by_cases h1 : m.w ≤ S
    · rw [if_pos (by simp; omega), if_pos (by simp; omega)]
      simp only [List.length_cons]; omega
    · rw [if_neg (by simp; omega)]
      split
      · simp only [List.length_cons]; omega
      · omega
theorem three_pow (a : Nat) : 1 + 2 * a ≤ 3 ^ a := by
  induction a with
  | zero => simp
  | succ a ih => rw [Nat.pow_succ]; omega
theorem tbs_bound {t : Int → Nat} {S : Int} {B : Nat} : ∀ (l : List Sp), (∀ m ∈ l, m.w = S → t m.p ≤ B ∧ t (andNotI S m.p) ≤ B) → tbs t S l ≤ cntEq S l * (2 * B)
  | [], _ => by simp [tbs]
  | m :: l, h => by
    have ih := tbs_bound l fun x hx => h x (by simp [hx])
    simp only [tbs, cntEq, List.filter_cons] at ih ⊢
    by_cases h1 : m.w = S
    · obtain ⟨q1, q2⟩ := h m (by simp) h1
      rw [if_pos h1, if_pos (by simp; omega), List.length_cons, Nat.add_mul]
      omega
    · rw [if_neg h1, if_neg (by simp; omega)]
      omega
theorem tb_bound {may : List Sp} (hm : MayOK may) : ∀ (f : Nat) (S : Int), tb may f S ≤ (60 + may.length) * 3 ^ cntLe S may
  | 0, S => by simp [tb]
  | f + 1, S => by
    rw [tb, cnt_step]
    have h1 := tbs_bound (t := tb may f) (S := S) (B := (60 + may.length) * 3 ^ cntLe (S - 1) may) may fun m hmm hw => by
      obtain ⟨hs, hp⟩ := hm m hmm
      obtain ⟨q1, q2, q3, q4, q5, q6⟩ := split_facts hs hp
      rw [hw] at q2 q4
      refine ⟨Nat.le_trans (tb_bound hm f m.p) ?_, Nat.le_trans (tb_bound hm f (andNotI S m.p)) ?_⟩
      · exact Nat.mul_le_mul_left _ (Nat.pow_le_pow_right (by decide) (cntLe_mono (by omega) may))
      · exact Nat.mul_le_mul_left _ (Nat.pow_le_pow_right (by decide) (cntLe_mono (by omega) may))
    have h2 := three_pow (cntEq S may)
    have h3 : 1 ≤ 3 ^ cntLe (S - 1) may := Nat.one_le_pow _ _ (by decide)
    rw [Nat.pow_add, ← Nat.mul_assoc]
    generalize 60 + may.length = C at *
    generalize 3 ^ cntLe (S - 1) may = X at *
    generalize 3 ^ cntEq S may = Y at *
    generalize cntEq S may = a at *
    calc C + tbs (tb may f) S may ≤ C + a * (2 * (C * X)) := by omega
      _ ≤ C * X + a * (2 * (C * X)) := by
        have : C * 1 ≤ C * X := Nat.mul_le_mul_left _ h3
        omega
      _ = (C * X) * (1 + 2 * a) := by
        rw [Nat.mul_add, Nat.mul_one, ← Nat.mul_assoc, Nat.mul_comm a 2, Nat.mul_comm (C * X) (2 * a)]
      _ ≤ (C * X) * Y := Nat.mul_le_mul_left _ h2
theorem tb_small {may : List Sp} (hm : MayOK may) (hl : may.length ≤ 15) (f : Nat) (S : Int) : tb may f S ≤ 1100000000 := by
  refine Nat.le_trans (tb_bound hm f S) ?_
  have h1 : cntLe S may ≤ 15 := Nat.le_trans (List.length_filter_le _ _) hl
  have h2 : 3 ^ cntLe S may ≤ 3 ^ 15 := Nat.pow_le_pow_right (by decide) h1
  calc (60 + may.length) * 3 ^ cntLe S may ≤ 75 * 3 ^ 15 := Nat.mul_le_mul (by omega) h2
    _ ≤ 1100000000 := by decide
end
section
variable {P : Program} {I : Table} {F : FF} {s : St} {Q : FF → St → Prop} {d : Option Tmp} {ty : TypeId} {pos : String} {af : Array Edge} {g : Option (Nat × Bool)} {W : List Nat} {s0 : St} {L : Hp'} {n : Nat}
theorem op_makeMap {t : TypeId} (H : HL W s0 s L n) (hr : s0.next + n < limit) (k : ∀ b s', HL W s0 s' ((b, mapO []) :: L) (n + 1) → Q (upd F d (.map (some b))) s') : OpW P I ⟨d, .makeMap t none, ty, pos, af, g⟩ F s Q := by
  refine op_val (v := .map (some s.next)) (s' := s.new (.map #[] 0)) ?_ (k _ _ (H.new _ hr))
  have hroom := H.room hr
  simp only [stepM, mapM, hroom]
  rfl
end
end Go.Proofs.YtdejleegamcioaaGreat
namespace Go.Proofs.YtdejleegamcioaaGreat
open Go Go.M

theorem bf36 : buildF Tryz.prog 36 = some ([.slice none 0 0, .slice none 0 0], [(0, 1), (1, 1)]) := by kernel_rfl
theorem fc40 : funcF Tryz.prog 40 = true := by kernel_rfl
theorem sz36 : sizeF Tryz.prog 36 = some 2 := by kernel_rfl
theorem sz96 : sizeF Tryz.prog 96 = some 1 := by kernel_rfl
theorem sz97 : sizeF Tryz.prog 97 = some 1 := by kernel_rfl
theorem zf36 : zeroF Tryz.prog 36 = some [.slice none 0 0, .slice none 0 0] := by kernel_rfl
theorem zf96 : zeroF Tryz.prog 96 = some [.map none] := by kernel_rfl
theorem zf97 : zeroF Tryz.prog 97 = some [.nilFunc] := by kernel_rfl

/-- The first statements of some; the others. -/
def takeS : Nat → Code → Code
  | 0, _ => .skip
  | 1, .seq x _ => x
  | n + 2, .seq x y => .seq x (takeS (n + 1) y)
  | _ + 1, c => c
def dropS : Nat → Code → Code
  | 0, c => c
  | n + 1, .seq _ y => dropS n y
  | _ + 1, c => c
noncomputable def leastBody : Code := Tryz.f12.body.getD .skip
noncomputable def leastPre : Code := takeS 8 leastBody
noncomputable def leastTail : Code := dropS 10 leastBody
/-- Where the first statements lead. -/
def PreQ (js : List (Int × Int)) (bad : Int) (may : List Sp) (w : Int) (s : St) (N : Nat) : FOut → Prop
  | .ret F s' => (bb js bad may w).1 = 65536 ∧ ∃ (b10 : Nat), F 8 = .slice none 0 0 ∧ F 9 = .int .i64 0 ∧ F 10 = ptr b10 ∧ F 11 = .int .i64 6 ∧ HL [] s s' [(b10, .cells [.slice none 0 0, .slice none 0 0] 36)] N
  | .normal F s' => (bb js bad may w).1 < 65536 ∧ ∃ (G : FF) (b10 bK b16 r : Nat) (E : List Ent), F = lay G [(0, .int .i64 w), (10, ptr b10), (13, ptr bK), (15, .int .i64 (bb js bad may w).1), (16, ptr b16)] ∧ Good js bad may E ∧ w ∈ keysE E ∧ E.length ≤ 65535 ∧ (∀ k ∈ keysE E, Rch js bad may w k) ∧
      HL [] s s' [(b16, .cells [.slice none 0 0, .slice none 0 0] 36), (bK, .cells [.map (some r)] 96), (r, mapO E), (b10, .cells [.slice none 0 0, .slice none 0 0] 36)] N
  | _ => False
theorem nodup_len : ∀ (N : Nat) (l : List Int), l.Nodup → (∀ x ∈ l, 0 < x ∧ x ≤ (N : Int)) → l.length ≤ N
  | 0, l, _, h => by
    cases l with
    | nil => simp
    | cons x l => have := h x (by simp); omega
  | N + 1, l, hn, h => by
    have h1 := nodup_len N (l.filter fun x => decide (x ≠ ((N + 1 : Nat) : Int))) (hn.filter _) (by
      intro x hx
      rw [List.mem_filter] at hx
      have := h x hx.1
      have h2 := hx.2
      simp only [decide_eq_true_eq] at h2
      omega)
    have h2 : l.count ((N + 1 : Nat) : Int) ≤ 1 := List.nodup_iff_count.mp hn _
    have h3 := List.length_eq_countP_add_countP (fun x => decide (x = ((N + 1 : Nat) : Int))) (l := l)
    have h4 : l.countP (fun x => decide (x = ((N + 1 : Nat) : Int))) = l.count ((N + 1 : Nat) : Int) := by
      rw [List.count]
      congr 1
    have h5 : l.countP (fun a => !decide (a = ((N + 1 : Nat) : Int))) = (l.filter fun x => decide (x ≠ ((N + 1 : Nat) : Int))).length := by
      rw [List.countP_eq_length_filter]
      congr 2
      funext x
      simp
    have h6 : l.countP (fun a => decide (¬ decide (a = ((N + 1 : Nat) : Int)) = true)) = l.countP (fun a => !decide (a = ((N + 1 : Nat) : Int))) := by
      congr 1
      funext x
      simp
    omega
/-- The joins are proper. -/
theorem joinsB_of {js : List (Int × Int)} (h : ∀ j ∈ js, joinB j ∧ j.1 ≠ j.2) : joinsB js = true := by
  induction js with
  | nil => rfl
  | cons j r ih =>
    have h1 := h j (by simp)
    unfold joinB at h1
    rw [joinsB, ih fun x hx => h x (by simp [hx])]
    simp only [Bool.and_true, Bool.not_eq_true', Bool.or_eq_false_iff, decide_eq_false_iff_not]
    omega
theorem err_ok {w bad : Int} {js : List (Int × Int)} {may : List Sp} (hj : ∀ j ∈ js, joinB j ∧ j.1 ≠ j.2) (hjl : js.length ≤ 16) (hm : MayOK may) (hml : may.length ≤ 4096) (hw0 : 0 < w) (hw1 : w < 65536) (hb0 : 0 ≤ bad) (hb1 : bad < 2 ^ js.length) : errZ w js bad may = 0 := by
  unfold errZ
  rw [if_neg (by omega), if_neg (by omega), if_neg, if_pos (joinsB_of hj)]
  rw [List.any_eq_true]
  rintro ⟨x, hx, hs⟩
  rw [(hm x hx).1] at hs
  cases hs

set_option maxHeartbeats 4000000 in
set_option maxRecDepth 10000 in
theorem pre_ok {I : Table} (hI : Plain I) {s : St} (hf : Fine s) {w bad : Int} {vj vm : Value} {js : List (Int × Int)} {may : List Sp} (hJ : Sl s 30 2 vj (js.map jc)) (hM : Sl s 62 10 vm (may.map Sp.cells)) (hj : ∀ j ∈ js, joinB j ∧ j.1 ≠ j.2) (hjl : js.length ≤ 16) (hm : MayOK may) (hml : may.length ≤ 15) (hw0 : 0 < w) (hw1 : w < 65536) (hb0 : 0 ≤ bad) (hb1 : bad < 2 ^ js.length) (hroom : s.next + (10020 + tb may (w.toNat + 1) w) ≤ limit) :
    CodeW Tryz.prog I leastPre (frameOf #[.int .i64 w, vj, .int .i64 bad, vm]) s (PreQ js bad may w s (10020 + tb may (w.toNat + 1) w)) := by
  have H := hf.hl
  obtain ⟨ja, jn, jcp, rfl, hjn⟩ := hJ.isSlice
  obtain ⟨ma, mn, mcp, rfl, hmn⟩ := hM.isSlice
  have herr := err_ok hj hjl hm (by omega) hw0 hw1 hb0 hb1
  have hrg := bb_range (js := js) (bad := bad) (may := may) w
  refine cR ?_
  refine oO rfl (op_boxS H rfl (by omega) (fun b5 s1 H => ?_))
  refine oO rfl (op_boxI H rfl (by omega) (fun b6 s2 H => ?_))
  refine oO rfl (op_boxS H rfl (by omega) (fun b7 s3 H => ?_))
  refine oO rfl (aC ?_)
  refine oO rfl (aC ?_)
  refine oO rfl (op_alloc H zf36 (by omega) (fun b10 s4 H => ?_))
  refine oO rfl (aC ?_)
  refine ops_nil ?_
  refine cw_seq ?_
  refine cR ?_
  refine oO rfl (mI rfl ?_)
  refine oO rfl (lO sh24 rfl (by exact H.own3) rfl ?_)
  refine oO rfl (lO sh23 rfl (by exact H.own2) rfl ?_)
  refine oO rfl (lO sh25 rfl (by exact H.own1) rfl ?_)
  refine oO rfl (oC rfl fc40 rfl ?_)
  obtain ⟨_, s9, hr, rfl, Hc⟩ := valid_args_ok (w := w) (bad := bad) hI H.fine (hJ.kept H) (hM.kept H) (by have := H.most; omega)
  refine ⟨_, _, hr, ?_⟩
  clear hr
  have H := H.call0 Hc
  clear Hc
  rw [herr]
  refine oO rfl (aI rfl ?_)
  refine ops_nil ?_
  refine cR ?_
  refine oO rfl (mI rfl ?_)
  refine oO rfl (op_neq rfl rfl (fun h => False.elim (by exact h rfl)) (fun h => ?_))
  refine ops_nil ?_
  refine cE rfl ?_
  refine cw_skip ?_
  refine sN ?_
  refine cR ?_
  refine oO rfl (op_makeMap H (by omega) (fun b31 s31 H => ?_))
  refine oO rfl (op_alloc H zf96 (by omega) (fun b13 s5 H => ?_))
  refine oO rfl (op_store0 (vs := [.map _]) H sz96 rfl rfl rfl rfl rfl (by omega) (fun s6 H => ?_))
  refine ops_nil ?_
  refine cR ?_
  refine oO rfl (op_alloc H zf97 (by omega) (fun b14 s7 H => ?_))
  refine ops_nil ?_
  refine cR ?_
  refine oO rfl (op_makeFunc ?_)
  refine oO rfl (op_store0 (vs := [_]) H sz97 rfl rfl rfl rfl rfl (by omega) (fun s8 H => ?_))
  refine ops_nil ?_
  refine cR ?_
  refine oO rfl (lO sh97 rfl (by exact H.own0) rfl ?_)
  refine oO rfl (mI rfl ?_)
  refine oO rfl (oC rfl fc41 rfl ?_)
  have hst : OfSt _ b31 b13 b5 b6 b7 b14 (.slice ja jn jcp) bad (.slice ma mn mcp) js may [] := ⟨H.own1, H.lt1, H.own6, H.lt6, H.own5, H.lt5, H.own4, H.lt4, H.own0, H.lt0, H.own2, H.lt2, (H.own (b31, mapO []) (by simp)).2.2.1, hJ.kept H, hM.kept H⟩
  obtain ⟨_, s9, hr, E, rfl, Hc, hg, hk, X, hX, hXb, hXl⟩ := of_ok hI (fun j hj2 => (hj j hj2).1) hjl hm (by omega) (w.toNat + 1) w hw0 (by omega) _ [] H.fine hst ⟨by simp [keysE], (by intro e he; cases he), (by intro e he; cases he)⟩ (by have := H.most; omega)
  refine ⟨_, _, hr, ?_⟩
  clear hr
  have hEl : E.length ≤ 65535 := by
    have h1 := nodup_len 65535 (keysE E) hg.nodup (by
      intro x hx
      obtain ⟨e, he, rfl⟩ := List.mem_map.mp hx
      rw [hX, List.nil_append] at he
      have := (hXb e he).1
      omega)
    simpa [keysE] using h1
  have hRc : ∀ k ∈ keysE E, Rch js bad may w k := by
    intro x hx
    obtain ⟨e, he, rfl⟩ := List.mem_map.mp hx
    rw [hX, List.nil_append] at he
    exact (hXb e he).2
  have H := HL.callW (A := [(b31, mapO [])]) (L := [_, _, _, _, _, _]) (HL.mid (A := [_, _]) (B := [_]) (C := [_, _, _, _]) H) Hc (by intro b hb; rw [List.mem_singleton] at hb; subst hb; exact ⟨_, List.mem_singleton.mpr rfl⟩) (by intro p hp; rw [List.mem_singleton] at hp; subst hp; simp)
  clear Hc
  simp only [List.cons_append, List.nil_append] at H
  refine oO rfl (aI rfl ?_)
  refine ops_nil ?_
  refine cw_seq ?_
  refine cR ?_
  refine oO rfl (mI rfl ?_)
  refine oO rfl (op_eql rfl rfl (fun h => ?_) (fun h => ?_))
  · refine ops_nil ?_
    refine cT rfl ?_
    refine cR ?_
    refine oO rfl (op_build (c := [.slice _ _ _, .slice _ _ _]) bf36 rfl ?_)
    refine oO rfl (aC ?_)
    refine oO rfl (aC ?_)
    refine oO rfl (op_store3 (vs := [.slice _ _ _, .slice _ _ _]) H sz36 rfl rfl rfl rfl rfl (by omega) (fun s9 H => ?_))
    refine oO rfl (aC ?_)
    refine ops_nil ?_
    refine cw_ret ?_
    refine seq_ret ?_
    refine ⟨by omega, b10, rfl, rfl, rfl, rfl, ?_⟩
    exact (H.sub (L' := [(b10, .cells [.slice none 0 0, .slice none 0 0] 36)]) (.cons _ (.cons _ (.cons _ (.cons_cons _ (List.nil_sublist _)))))).up (by omega)
  · refine ops_nil ?_
    refine cE rfl ?_
    refine cw_skip ?_
    refine sN ?_
    refine cG ?_
    refine oO rfl (op_alloc H zf36 (by omega) (fun b16 s10 H => ?_))
    refine ops_nil ?_
    refine ⟨by omega, _, b10, b13, b16, b31, E, slots ⟨rfl, rfl, rfl, rfl, rfl, trivial⟩, hg, hk, by omega, hRc, ?_⟩
    have H2 := H.sub (L' := [(b16, _), (b31, _), (b13, _), (b10, _)]) (.cons_cons _ (.cons_cons _ (.cons _ (.cons_cons _ (.cons_cons _ (List.nil_sublist _))))))
    exact (HL.perm H2 (List.Perm.cons _ (List.Perm.swap _ _ _))).up (by omega)

end Go.Proofs.YtdejleegamcioaaGreat
