/- The reference of cleanings: the least numbers. -/
import Derived.Test.YtdejleegamcioaaGreatL19
namespace Go.Proofs.YtdejleegamcioaaGreat
open Go Go.M

theorem fb19 : funcB Tryz.f19 (Tryz.f19.body.getD .skip) 4 = true := by kernel_rfl
theorem fc46 : funcF Tryz.prog 46 = true := by kernel_rfl
theorem fc54 : funcF Tryz.prog 54 = true := by kernel_rfl
theorem sh40 : shapeOf Tryz.prog 40 = some (some 2) := by kernel_rfl
theorem sz31 : sizeF Tryz.prog 31 = some 1 := by kernel_rfl
theorem sz40 : sizeF Tryz.prog 40 = some 2 := by kernel_rfl
theorem zf40 : zeroF Tryz.prog 40 = some [.slice none 0 0, .slice none 0 0] := by kernel_rfl

theorem _root_.Go.M.HL.back {W : List Nat} {s0 s s' : St} {L L0 : Hp'} {n n0 : Nat} (H0 : HL W s0 s L0 n0) (H : HL W s0 s' L n) : HL W s0 { next := s'.next, bar := s.bar, prot := s.prot, heap := s'.heap } L n := by
  have h1 : s'.bar = s.bar := H.bar.trans H0.bar.symm
  have h2 : s'.prot = s.prot := H.prot.trans H0.prot.symm
  cases s'
  simp only at h1 h2
  subst h1
  subst h2
  exact H
section
variable (js : List (Int × Int)) (bad : Int) (may : List Sp) (S : Int)
/-- The number of a set, when so many splits were looked at. -/
def numZ (q : Nat) : Int := if needsB S bad 0 js = true then (may.take q).foldl (stepN (fun q => (bb js bad may q).1) S) 65536 else 0
variable {js bad may S}
theorem foldN_le {v : Int → Int} {S : Int} : ∀ {l : List Sp} {n : Int}, l.foldl (stepN v S) n ≤ n
  | [], _ => by simp
  | m :: l, n => by
    rw [List.foldl_cons]
    refine Int.le_trans foldN_le ?_
    unfold stepN
    split
    · omega
    · split <;> omega
theorem numZ_facts {q : Nat} : (needsB S bad 0 js = true → 0 < numZ js bad may S q) ∧ (needsB S bad 0 js = false → numZ js bad may S q = 0) ∧ 0 ≤ numZ js bad may S q ∧ numZ js bad may S q ≤ 65536 := by
  unfold numZ
  by_cases h : needsB S bad 0 js = true
  · rw [if_pos h]
    have h1 := foldN_pos (v := fun q => (bb js bad may q).1) (S := S) (l := may.take q) (n := 65536) (fun x => (bb_range x).1) (by omega)
    have h2 := foldN_le (v := fun q => (bb js bad may q).1) (S := S) (l := may.take q) (n := 65536)
    exact ⟨fun _ => h1, (fun h3 => by rw [h] at h3; cases h3), by omega, h2⟩
  · rw [if_neg h]
    exact ⟨fun h2 => absurd h2 h, fun _ => rfl, by omega, by omega⟩
theorem numZ_succ {q : Nat} (hq : q < may.length) (hn : needsB S bad 0 js = true) : numZ js bad may S (q + 1) = stepN (fun q => (bb js bad may q).1) S (numZ js bad may S q) (may.getD q default) := by
  unfold numZ
  rw [if_pos hn, if_pos hn, List.take_succ_eq_append_getElem hq, List.foldl_append]
  simp [List.getD_eq_getElem?_getD, List.getElem?_eq_getElem hq]
theorem numZ_all (hm : MayOK may) (h0 : 0 < S) : numZ js bad may S may.length = (bb js bad may S).1 := by
  unfold numZ
  rw [List.take_length, bb_num hm h0]
theorem numZ_none (hm : MayOK may) (h0 : 0 < S) (hn : needsB S bad 0 js = false) {q : Nat} : numZ js bad may S q = (bb js bad may S).1 := by
  unfold numZ
  rw [bb_num hm h0, if_neg (by rw [hn]; simp), if_neg (by rw [hn]; simp)]
theorem inc_take {l : List Int} (h : Inc l) {i : Nat} (hi : i < l.length) {x : Int} (hx : x ∈ l) (hlt : x < l.getD i 0) : x ∈ l.take i := by
  rw [← List.take_append_drop i l] at hx
  rcases List.mem_append.mp hx with hx | hx
  · exact hx
  · exfalso
    have h2 : Inc (l.drop i) := h.sublist (List.drop_sublist i l)
    rw [drop_getD 0 hi] at hx h2
    rcases List.mem_cons.mp hx with hx | hx
    · omega
    · have := (List.pairwise_cons.mp h2).1 x hx
      omega
end

set_option maxHeartbeats 4000000 in
set_option maxRecDepth 10000 in
theorem numbers_ok {I : Table} (hI : Plain I) {s : St} (hf : Fine s) {w bad : Int} {vj vm : Value} {js : List (Int × Int)} {may : List Sp} (hJ : Sl s 30 2 vj (js.map jc)) (hM : Sl s 62 10 vm (may.map Sp.cells)) (hj : ∀ j ∈ js, joinB j) (hjl : js.length ≤ 16) (hm : MayOK may) (hml : may.length ≤ 15) (hw0 : 0 < w) (hw1 : w < 65536) (hroom : s.next + 1031030000000 ≤ limit) :
    ∃ v' s', Rets Tryz.prog I 19 #[.int .i64 w, vj, .int .i64 bad, vm] s v' s' ∧ (∃ (D : Hp') (p1 p2 : Slc) (ks : List Int), v' = .agg ⟨[p1.v, p2.v]⟩ ∧ HL [] s s' D 1031030000000 ∧ Inc ks ∧ (∀ k, k ∈ ks ↔ Rch js bad may w k) ∧ SlG D 23 1 p1.v (ks.map dc) ∧ SlG D 3 1 p2.v ((ks.map (fun q => (bb js bad may q).1)).map dc)) := by
  have H := hf.hl
  obtain ⟨ja, jn, jcp, rfl, hjn⟩ := hJ.isSlice
  rw [List.length_map] at hjn
  subst hjn
  obtain ⟨ma, mn, mcp, rfl, hmn⟩ := hM.isSlice
  rw [List.length_map] at hmn
  subst hmn
  refine call_of 4 (hI 19 (by decide) (by decide)) Tryz.func19 rfl fb19 rfl ?_
  refine cR ?_
  refine oO rfl (op_alloc H zf40 (by omega) (fun b8 s1 H => ?_))
  refine ops_nil ?_
  refine cR ?_
  refine oO rfl (mI rfl ?_)
  refine oO rfl (mS rfl ?_)
  refine oO rfl (mI rfl ?_)
  refine oO rfl (mS rfl ?_)
  refine oO rfl (oC rfl fc54 rfl ?_)
  obtain ⟨_, s9, hr, Dk, ⟨ka, kn, kc⟩, ks, rfl, Hc, hkG, hinc, hks⟩ := reached_ok (w := w) (bad := bad) hI H.fine (hJ.kept H) (hM.kept H) hj hjl hm hml hw0 hw1 (by have := H.most; omega)
  refine ⟨_, _, hr, ?_⟩
  clear hr
  have H := H.callE Hc
  clear Hc
  try simp only [List.cons_append, List.nil_append, List.append_assoc] at H
  have hsn := hkG.slc
  rw [List.length_map] at hsn
  simp only at hsn
  subst hsn
  have hkl0 := rch_len hm hw0 hw1 hinc (fun x hx => (hks x).mp hx)
  have hk0 : 0 < ks.length := List.length_pos_of_mem ((hks w).mpr .self)
  obtain ⟨bk, ofk, _, rfl, _⟩ := (hkG.sl H (by intro p hp; (try simp only [List.mem_cons, List.mem_append, List.not_mem_nil, or_false] at hp ⊢); first | exact hp | simp only [hp, true_or, or_true])).atD (i := 0) (k := 0) rfl hk0
  refine oO rfl (aS rfl ?_)
  refine ops_nil ?_
  refine cR ?_
  refine oO rfl (op_alloc H zf40 (by omega) (fun b10 s2 H => ?_))
  refine ops_nil ?_
  refine cw_seq ?_
  obtain ⟨N1, hN1⟩ : ∃ N1, N1 = 0 + 1 + 1031020300000 + 1 := ⟨_, rfl⟩
  rw [← hN1] at H
  refine cR ?_
  refine oO rfl (aC ?_)
  refine ops_nil ?_
  refine cw_block ?_
  refine cw_loop (fun k F s1 => ∃ (G : FF) (i : Nat) (P1 P2 : Hp') (psa pla : Option Addr) (psc plc : Nat) (kt : List Int), F = lay G [(0, .int .i64 w), (1, .slice ja js.length jcp), (2, .int .i64 bad), (3, .slice ma may.length mcp), (8, ptr b8), (9, .slice (some ⟨bk, ofk, none⟩) ks.length kc), (10, ptr b10), (11, .int .i64 (i : Int))] ∧ HL [] s s1 ((b10, .cells [.slice psa kt.length psc, .slice pla (kt.map (fun q => (bb js bad may q).1)).length plc] 40) :: (b8, .cells [.slice none 0 0, .slice none 0 0] 40) :: (Dk ++ (P2 ++ P1))) (N1 + 60 * i) ∧ Own 23 1 P1 (.slice psa kt.length psc) (ints kt) kt.length ∧ Own 3 1 P2 (.slice pla (kt.map (fun q => (bb js bad may q).1)).length plc) (ints (kt.map (fun q => (bb js bad may q).1))) (kt.map (fun q => (bb js bad may q).1)).length ∧ kt = ks.take i ∧ kt.length = i ∧ i ≤ ks.length ∧ k = ks.length - i) ?_ ks.length _ _ ?_
  · rintro k F s1 ⟨G, i, P1, P2, psa, pla, psc, plc, kt, rfl, H, ho1, ho2, hkt, hkl, hi, rfl⟩
    have hG1 := Own.dcs ho1
    have hG2 := Own.dcs ho2
    have hml2 : (kt.map (fun q => (bb js bad may q).1)).length = i := by rw [List.length_map]; exact hkl
    refine cw_seq ?_
    refine cR ?_
    refine oO rfl (mI rfl ?_)
    refine oO rfl (mS rfl ?_)
    refine oO rfl (op_len un31 rfl rfl rfl ?_)
    refine oO rfl (op_lss rfl rfl (fun h => ?_) (fun h => ?_))
    · refine ops_nil ?_
      refine cT rfl ?_
      refine cw_skip ?_
      refine sN ?_
      refine cw_seq ?_
      refine cw_block ?_
      refine cR ?_
      refine oO rfl (aC ?_)
      refine ops_nil ?_
      refine cw_seq ?_
      refine cR ?_
      refine oO rfl (mS rfl ?_)
      refine oO rfl (mI rfl ?_)
      obtain ⟨_, _, ck, hek, hgk, hbk, hck⟩ := (hkG.sl H (by intro p hp; (try simp only [List.mem_cons, List.mem_append, List.not_mem_nil, or_false] at hp ⊢); first | exact hp | simp only [hp, true_or, or_true])).atD (i := (i : Int)) (k := i) rfl (by omega)
      cases hek
      have hlk : bk < limit := by have hmo := H.most; (try simp only at hmo hbk); omega
      refine oO rfl (op_indexS el31 rfl rfl (by omega) (by omega) ?_)
      refine oO rfl (lO sh23 rfl hgk hck ?_)
      refine oO rfl (mS rfl ?_)
      refine oO rfl (mI rfl ?_)
      refine oO rfl (oC rfl fc55 rfl ?_)
      obtain ⟨_, _, hr, rfl, rfl⟩ := needsR_ok (x := (ks.getD i 0)) (bad := bad) hI (hJ.kept H) hj hjl
      refine ⟨_, _, hr, ?_⟩
      clear hr
      cases hnd : needsB (ks.getD i 0) bad 0 js
      · refine oO rfl (op_not rfl ?_)
        refine ops_nil ?_
        refine cT rfl ?_
        refine cG ?_
        refine oO rfl (aC ?_)
        refine ops_nil ?_
        refine sN ?_
        refine cw_seq ?_
        obtain ⟨N2, hN2⟩ : ∃ N2, N2 = N1 + 60 * i := ⟨_, rfl⟩
        rw [← hN2] at H
        refine cR ?_
        refine oO rfl (aC ?_)
        refine ops_nil ?_
        refine cw_block ?_
        refine cw_loop (fun k F s1 => ∃ (G : FF) (q : Nat) (n : Int), F = lay G [(0, .int .i64 w), (1, .slice ja js.length jcp), (2, .int .i64 bad), (3, .slice ma may.length mcp), (8, ptr b8), (9, .slice (some ⟨bk, ofk, none⟩) ks.length kc), (10, ptr b10), (11, .int .i64 (i : Int)), (12, .int .i64 n), (13, .int .i64 (q : Int))] ∧ HL [] s s1 ((b10, .cells [.slice psa kt.length psc, .slice pla (kt.map (fun q => (bb js bad may q).1)).length plc] 40) :: (b8, .cells [.slice none 0 0, .slice none 0 0] 40) :: (Dk ++ (P2 ++ P1))) (N2 + 3 * q) ∧ n = numZ js bad may (ks.getD i 0) q ∧ q ≤ may.length ∧ k = may.length - q) ?_ may.length _ _ ?_
        · rintro k F s1 ⟨G, q, n, rfl, H, hn, hq, rfl⟩
          have hnp := numZ_facts (js := js) (bad := bad) (may := may) (S := (ks.getD i 0)) (q := q)
          rw [← hn] at hnp
          refine cw_seq ?_
          refine cR ?_
          refine oO rfl (mI rfl ?_)
          refine oO rfl (mS rfl ?_)
          refine oO rfl (op_len un25 rfl rfl rfl ?_)
          refine oO rfl (op_lss rfl rfl (fun h => ?_) (fun h => ?_))
          · refine oO rfl (mB rfl ?_)
            refine oO rfl (mI rfl ?_)
            refine oO rfl (op_gtr rfl rfl (fun h => False.elim (by have := hnp.2.1 hnd; omega)) (fun h => ?_))
            refine oO rfl (k1B rfl rfl ?_)
            refine ops_nil ?_
            refine cE rfl ?_
            refine cw_exit ?_
            refine seq_exit ?_
            refine loop_exit ?_
            refine blk_here ?_
            refine sN ?_
            have hSr := (hks (ks.getD i 0)).mp (getD_mem (by omega))
            have hS0 := (hSr.range hm hw0).1
            have hnb : n = (bb js bad may (ks.getD i 0)).1 := by first | (rw [hn]; exact numZ_none hm hS0 hnd) | (rw [hn, show q = may.length by omega]; exact numZ_all hm hS0)
            refine cw_dseq [⟨0, 0, .light, [5]⟩, ⟨1, 1, .light, [5]⟩, ⟨2, 0, .light, [1]⟩, ⟨3, 0, .light, [1]⟩, ⟨4, 12, .light, [1]⟩, ⟨5, 28, .light, [1]⟩, ⟨6, 60, .whole, [1]⟩, ⟨7, 127, .whole, []⟩, ⟨8, 255, .light, []⟩, ⟨9, 511, .whole, []⟩] (by kernel_rfl) (by kernel_rfl) ?_
            obtain ⟨_, _, ck, hek, hgk, hbk, hck⟩ := (hkG.sl H (by intro p hp; (try simp only [List.mem_cons, List.mem_append, List.not_mem_nil, or_false] at hp ⊢); first | exact hp | simp only [hp, true_or, or_true])).atD (i := (i : Int)) (k := i) rfl (by omega)
            cases hek
            have hlk : bk < limit := by have hmo := H.most; (try simp only at hmo hbk); omega
            refine dL rfl rfl (fA of40_0 rfl ⟨rfl, ?_⟩)
            refine dr_load1 rfl rfl sh31 rfl (by exact H.own0) (by exact H.lim0 (by omega)) rfl ?_
            refine dL rfl rfl (mS rfl ⟨rfl, ?_⟩)
            refine dL rfl rfl (mI rfl ⟨rfl, ?_⟩)
            refine dL rfl rfl (op_indexS el31 rfl rfl (by omega) (by omega) ⟨rfl, ?_⟩)
            refine dr_load1 rfl rfl sh23 rfl hgk hlk hck ?_
            have Hn := (Fine.narrow (X := [b10]) H.fine (by intro p hp; rw [List.mem_singleton] at hp; subst hp; exact H.lt0)).hl
            refine dW rfl rfl (op_buildSlice (c := [.int _ _]) Hn sl31 rfl rfl (by have hmo := H.most; (try simp only at hmo); show _ + _ < _; (try simp only); omega) (fun b87 s87 Hc => ?_))
            have H := H.call (HL.wider H.fine (Nat.le_refl _) (fun _ h => List.mem_append_right _ h) Hc)
            clear Hc
            simp only [List.cons_append, List.nil_append] at H
            have hgt := H.own0
            have H := H.drop0
            rw [← List.append_assoc Dk P2 P1] at H
            have H := HL.swap (A := _ :: _ :: (Dk ++ P2)) (B := P1) H
            have H00 := H
            refine dW rfl rfl (op_appendOwn H ho1 sl31 un31 rfl rfl rfl (elems_all hgt rfl) (by decide) rfl rfl (by omega) (by omega) (fun b88 s88 H ho1 => ?_))
            have H := HL.back H00 H
            clear H00
            refine dL rfl rfl (fA of40_0 rfl ⟨rfl, ?_⟩)
            refine dr_store1 (vs := [.slice _ _ _]) (fr := []) H rfl rfl sz31 rfl rfl rfl rfl rfl rfl (by simp) (by omega) (fun s97 H => ?_)
            refine draw_nil ?_
            refine cG ?_
            refine oO rfl (fA of40_1 rfl ?_)
            refine oO rfl (lO sh22 rfl (by exact H.own1) rfl ?_)
            refine oO rfl (mI rfl ?_)
            refine oO rfl (op_buildSlice (c := [.int _ _]) H sl22 rfl rfl (by omega) (fun b93 s3 H => ?_))
            have hgt := H.own0
            have H := H.drop0
            have H := HL.swap (A := _ :: _ :: _ :: Dk) (B := P2) H
            refine oO rfl (op_appendOwn H ho2 sl22 un22 rfl rfl rfl (elems_all hgt rfl) (by decide) rfl rfl (by omega) (by omega) (fun b94 s94 H ho2 => ?_))
            refine oO rfl (fA of40_1 rfl ?_)
            refine oO rfl (op_store2 (vs := [.slice _ _ _]) H sz22 rfl rfl rfl rfl rfl (by omega) (fun s4 H => ?_))
            refine ops_nil ?_
            refine blk_norm ?_
            refine sN ?_
            refine cG ?_
            refine oO rfl (mI rfl ?_)
            refine oO rfl (op_add rfl rfl (by unfold In64; omega) ?_)
            refine oO rfl (aI rfl ?_)
            refine ops_nil ?_
            refine loop_norm ?_
            refine ⟨ks.length - (i + 1), by omega, _, i + 1, [(b88, .cells (ints kt ++ [.int .i64 (ks.getD i 0)]) 23)], [(b94, .cells (ints (kt.map (fun q => (bb js bad may q).1)) ++ [.int .i64 n]) 3)], some ⟨b88, 0, none⟩, some ⟨b94, 0, none⟩, 2 * (kt.length + 1) + 1, 2 * ((kt.map (fun q => (bb js bad may q).1)).length + 1) + 1, kt ++ [ks.getD i 0], slots ⟨rfl, rfl, rfl, rfl, rfl, rfl, rfl, rfl, trivial⟩, ?_, ?_, ?_, ?_, by simp; omega, by omega, rfl⟩
            · rw [List.length_append, List.map_append, List.length_append]
              exact (HL.swap (A := [_, _]) (B := _ :: _ :: Dk) H).up (by omega)
            · rw [ints_append, List.length_append]
              exact ho1
            · rw [List.map_append, ints_append, List.length_append]
              simp only [List.map_cons, List.map_nil]
              rw [← hnb]
              exact ho2
            · rw [List.take_succ_eq_append_getElem (show i < ks.length by omega), ← hkt]
              simp [List.getD_eq_getElem?_getD, List.getElem?_eq_getElem (show i < ks.length by omega)]
          · refine oO rfl (mB rfl ?_)
            refine oF rfl ?_
            refine oF rfl ?_
            refine oO rfl (op_pick0C rfl ?_)
            refine ops_nil ?_
            refine cE rfl ?_
            refine cw_exit ?_
            refine seq_exit ?_
            refine loop_exit ?_
            refine blk_here ?_
            refine sN ?_
            have hSr := (hks (ks.getD i 0)).mp (getD_mem (by omega))
            have hS0 := (hSr.range hm hw0).1
            have hnb : n = (bb js bad may (ks.getD i 0)).1 := by first | (rw [hn]; exact numZ_none hm hS0 hnd) | (rw [hn, show q = may.length by omega]; exact numZ_all hm hS0)
            refine cw_dseq [⟨0, 0, .light, [5]⟩, ⟨1, 1, .light, [5]⟩, ⟨2, 0, .light, [1]⟩, ⟨3, 0, .light, [1]⟩, ⟨4, 12, .light, [1]⟩, ⟨5, 28, .light, [1]⟩, ⟨6, 60, .whole, [1]⟩, ⟨7, 127, .whole, []⟩, ⟨8, 255, .light, []⟩, ⟨9, 511, .whole, []⟩] (by kernel_rfl) (by kernel_rfl) ?_
            obtain ⟨_, _, ck, hek, hgk, hbk, hck⟩ := (hkG.sl H (by intro p hp; (try simp only [List.mem_cons, List.mem_append, List.not_mem_nil, or_false] at hp ⊢); first | exact hp | simp only [hp, true_or, or_true])).atD (i := (i : Int)) (k := i) rfl (by omega)
            cases hek
            have hlk : bk < limit := by have hmo := H.most; (try simp only at hmo hbk); omega
            refine dL rfl rfl (fA of40_0 rfl ⟨rfl, ?_⟩)
            refine dr_load1 rfl rfl sh31 rfl (by exact H.own0) (by exact H.lim0 (by omega)) rfl ?_
            refine dL rfl rfl (mS rfl ⟨rfl, ?_⟩)
            refine dL rfl rfl (mI rfl ⟨rfl, ?_⟩)
            refine dL rfl rfl (op_indexS el31 rfl rfl (by omega) (by omega) ⟨rfl, ?_⟩)
            refine dr_load1 rfl rfl sh23 rfl hgk hlk hck ?_
            have Hn := (Fine.narrow (X := [b10]) H.fine (by intro p hp; rw [List.mem_singleton] at hp; subst hp; exact H.lt0)).hl
            refine dW rfl rfl (op_buildSlice (c := [.int _ _]) Hn sl31 rfl rfl (by have hmo := H.most; (try simp only at hmo); show _ + _ < _; (try simp only); omega) (fun b87 s87 Hc => ?_))
            have H := H.call (HL.wider H.fine (Nat.le_refl _) (fun _ h => List.mem_append_right _ h) Hc)
            clear Hc
            simp only [List.cons_append, List.nil_append] at H
            have hgt := H.own0
            have H := H.drop0
            rw [← List.append_assoc Dk P2 P1] at H
            have H := HL.swap (A := _ :: _ :: (Dk ++ P2)) (B := P1) H
            have H00 := H
            refine dW rfl rfl (op_appendOwn H ho1 sl31 un31 rfl rfl rfl (elems_all hgt rfl) (by decide) rfl rfl (by omega) (by omega) (fun b88 s88 H ho1 => ?_))
            have H := HL.back H00 H
            clear H00
            refine dL rfl rfl (fA of40_0 rfl ⟨rfl, ?_⟩)
            refine dr_store1 (vs := [.slice _ _ _]) (fr := []) H rfl rfl sz31 rfl rfl rfl rfl rfl rfl (by simp) (by omega) (fun s97 H => ?_)
            refine draw_nil ?_
            refine cG ?_
            refine oO rfl (fA of40_1 rfl ?_)
            refine oO rfl (lO sh22 rfl (by exact H.own1) rfl ?_)
            refine oO rfl (mI rfl ?_)
            refine oO rfl (op_buildSlice (c := [.int _ _]) H sl22 rfl rfl (by omega) (fun b93 s5 H => ?_))
            have hgt := H.own0
            have H := H.drop0
            have H := HL.swap (A := _ :: _ :: _ :: Dk) (B := P2) H
            refine oO rfl (op_appendOwn H ho2 sl22 un22 rfl rfl rfl (elems_all hgt rfl) (by decide) rfl rfl (by omega) (by omega) (fun b94 s94 H ho2 => ?_))
            refine oO rfl (fA of40_1 rfl ?_)
            refine oO rfl (op_store2 (vs := [.slice _ _ _]) H sz22 rfl rfl rfl rfl rfl (by omega) (fun s6 H => ?_))
            refine ops_nil ?_
            refine blk_norm ?_
            refine sN ?_
            refine cG ?_
            refine oO rfl (mI rfl ?_)
            refine oO rfl (op_add rfl rfl (by unfold In64; omega) ?_)
            refine oO rfl (aI rfl ?_)
            refine ops_nil ?_
            refine loop_norm ?_
            refine ⟨ks.length - (i + 1), by omega, _, i + 1, [(b88, .cells (ints kt ++ [.int .i64 (ks.getD i 0)]) 23)], [(b94, .cells (ints (kt.map (fun q => (bb js bad may q).1)) ++ [.int .i64 n]) 3)], some ⟨b88, 0, none⟩, some ⟨b94, 0, none⟩, 2 * (kt.length + 1) + 1, 2 * ((kt.map (fun q => (bb js bad may q).1)).length + 1) + 1, kt ++ [ks.getD i 0], slots ⟨rfl, rfl, rfl, rfl, rfl, rfl, rfl, rfl, trivial⟩, ?_, ?_, ?_, ?_, by simp; omega, by omega, rfl⟩
            · rw [List.length_append, List.map_append, List.length_append]
              exact (HL.swap (A := [_, _]) (B := _ :: _ :: Dk) H).up (by omega)
            · rw [ints_append, List.length_append]
              exact ho1
            · rw [List.map_append, ints_append, List.length_append]
              simp only [List.map_cons, List.map_nil]
              rw [← hnb]
              exact ho2
            · rw [List.take_succ_eq_append_getElem (show i < ks.length by omega), ← hkt]
              simp [List.getD_eq_getElem?_getD, List.getElem?_eq_getElem (show i < ks.length by omega)]
        · refine ⟨_, 0, _, slots ⟨rfl, rfl, rfl, rfl, rfl, rfl, rfl, rfl, rfl, rfl, trivial⟩, H, ?_, by omega, by omega⟩
          unfold numZ
          rw [hnd]
          rfl
      · refine oO rfl (op_not rfl ?_)
        refine ops_nil ?_
        refine cE rfl ?_
        refine cw_skip ?_
        refine sN ?_
        refine cw_seq ?_
        obtain ⟨N2, hN2⟩ : ∃ N2, N2 = N1 + 60 * i := ⟨_, rfl⟩
        rw [← hN2] at H
        refine cR ?_
        refine oO rfl (aC ?_)
        refine ops_nil ?_
        refine cw_block ?_
        refine cw_loop (fun k F s1 => ∃ (G : FF) (q : Nat) (n : Int), F = lay G [(0, .int .i64 w), (1, .slice ja js.length jcp), (2, .int .i64 bad), (3, .slice ma may.length mcp), (8, ptr b8), (9, .slice (some ⟨bk, ofk, none⟩) ks.length kc), (10, ptr b10), (11, .int .i64 (i : Int)), (12, .int .i64 n), (13, .int .i64 (q : Int))] ∧ HL [] s s1 ((b10, .cells [.slice psa kt.length psc, .slice pla (kt.map (fun q => (bb js bad may q).1)).length plc] 40) :: (b8, .cells [.slice none 0 0, .slice none 0 0] 40) :: (Dk ++ (P2 ++ P1))) (N2 + 3 * q) ∧ n = numZ js bad may (ks.getD i 0) q ∧ q ≤ may.length ∧ k = may.length - q) ?_ may.length _ _ ?_
        · rintro k F s1 ⟨G, q, n, rfl, H, hn, hq, rfl⟩
          have hnp := numZ_facts (js := js) (bad := bad) (may := may) (S := (ks.getD i 0)) (q := q)
          rw [← hn] at hnp
          refine cw_seq ?_
          refine cR ?_
          refine oO rfl (mI rfl ?_)
          refine oO rfl (mS rfl ?_)
          refine oO rfl (op_len un25 rfl rfl rfl ?_)
          refine oO rfl (op_lss rfl rfl (fun h => ?_) (fun h => ?_))
          · refine oO rfl (mB rfl ?_)
            refine oO rfl (mI rfl ?_)
            refine oO rfl (op_gtr rfl rfl (fun h => ?_) (fun h => False.elim (by have := hnp.1 hnd; omega)))
            refine oO rfl (k1B rfl rfl ?_)
            refine ops_nil ?_
            refine cT rfl ?_
            refine cw_skip ?_
            refine sN ?_
            refine cw_seq ?_
            refine cw_block ?_
            refine cw_seq ?_
            refine cw_dseq [⟨0, 0, .light, [8]⟩, ⟨1, 0, .light, [8]⟩, ⟨2, 3, .light, [8]⟩, ⟨3, 7, .light, [8]⟩, ⟨4, 15, .light, [8]⟩, ⟨5, 0, .light, [4]⟩, ⟨6, 0, .light, [4]⟩, ⟨7, 96, .light, [4]⟩, ⟨8, 224, .light, [4]⟩, ⟨9, 511, .light, []⟩] (by kernel_rfl) (by kernel_rfl) ?_
            obtain ⟨bm, ofm, cm0, hem, hgm0, hbm, hcm0⟩ := (hM.kept H).atS (i := (q : Int)) (k := q) rfl (by omega)
            cases hem
            obtain ⟨cm, hgm, hcw, hcp⟩ := (hM.kept H).gotS (k := q) (by omega)
            have hlm : bm < limit := by have hmo := H.most; (try simp only at hmo hbm); omega
            obtain ⟨_, _, ck, hek, hgk, hbk, hck⟩ := (hkG.sl H (by intro p hp; (try simp only [List.mem_cons, List.mem_append, List.not_mem_nil, or_false] at hp ⊢); first | exact hp | simp only [hp, true_or, or_true])).atD (i := (i : Int)) (k := i) rfl (by omega)
            cases hek
            have hlk : bk < limit := by have hmo := H.most; (try simp only at hmo hbk); omega
            refine dL rfl rfl (mS rfl ⟨rfl, ?_⟩)
            refine dL rfl rfl (mI rfl ⟨rfl, ?_⟩)
            refine dL rfl rfl (op_indexS el25 rfl rfl (by omega) (by omega) ⟨rfl, ?_⟩)
            refine dL rfl rfl (fA of62_0 rfl ⟨rfl, ?_⟩)
            refine dr_load1 rfl rfl sh23 rfl hgm hlm hcw ?_
            refine dL rfl rfl (mS rfl ⟨rfl, ?_⟩)
            refine dL rfl rfl (mI rfl ⟨rfl, ?_⟩)
            refine dL rfl rfl (op_indexS el31 rfl rfl (by omega) (by omega) ⟨rfl, ?_⟩)
            refine dr_load1 rfl rfl sh23 rfl hgk hlk hck ?_
            refine dL rfl rfl (op_neq rfl rfl (fun h => ⟨rfl, ?_⟩) (fun h => ⟨rfl, ?_⟩))
            · refine draw_nil ?_
              refine cT rfl ?_
              refine cw_exit ?_
              refine seq_exit ?_
              refine blk_here ?_
              refine sN ?_
              refine cG ?_
              refine oO rfl (mI rfl ?_)
              refine oO rfl (op_add rfl rfl (by unfold In64; omega) ?_)
              refine oO rfl (aI rfl ?_)
              refine ops_nil ?_
              refine loop_norm ?_
              refine ⟨may.length - (q + 1), by omega, _, q + 1, n, slots ⟨rfl, rfl, rfl, rfl, rfl, rfl, rfl, rfl, rfl, rfl, trivial⟩, H.up (by omega), ?_, by omega, rfl⟩
              rw [numZ_succ (by omega) hnd, stepN, if_pos (by simpa using h)]
              exact hn
            · refine draw_nil ?_
              refine cE rfl ?_
              refine cw_skip ?_
              refine sN ?_
              have hxS : (may.getD q default).w = (ks.getD i 0) := by simpa using h
              obtain ⟨hsp, hpb⟩ := hm (may.getD q default) (getD_mem (by omega))
              obtain ⟨hf1, hf2, hf3, hf4, hf5, hf6⟩ := split_facts hsp hpb
              have hSr := (hks (ks.getD i 0)).mp (getD_mem (by omega))
              have hp1 : (may.getD q default).p ∈ kt := by rw [hkt]; exact inc_take hinc (by omega) ((hks _).mpr (.part hSr hnd (getD_mem (by omega)) hxS)) (by omega)
              have hp2 : (andNotI (may.getD q default).w (may.getD q default).p) ∈ kt := by rw [hkt]; exact inc_take hinc (by omega) ((hks _).mpr (hxS ▸ .rest hSr hnd (getD_mem (by omega)) hxS)) (by omega)
              have hr1 := bb_range (js := js) (bad := bad) (may := may) (may.getD q default).p
              have hr2 := bb_range (js := js) (bad := bad) (may := may) (andNotI (may.getD q default).w (may.getD q default).p)
              refine cw_dseq [⟨0, 0, .light, [5]⟩, ⟨1, 0, .light, [0]⟩, ⟨2, 0, .light, [0]⟩, ⟨3, 6, .light, [0]⟩, ⟨4, 14, .light, [0]⟩, ⟨5, 30, .light, [0]⟩, ⟨6, 63, .whole, []⟩, ⟨7, 127, .light, []⟩] (by kernel_rfl) (by kernel_rfl) ?_
              obtain ⟨bm, ofm, cm0, hem, hgm0, hbm, hcm0⟩ := (hM.kept H).atS (i := (q : Int)) (k := q) rfl (by omega)
              cases hem
              obtain ⟨cm, hgm, hcw, hcp⟩ := (hM.kept H).gotS (k := q) (by omega)
              have hlm : bm < limit := by have hmo := H.most; (try simp only at hmo hbm); omega
              refine dr_loadN rfl rfl sh40 rfl (by exact H.own0) (by exact H.lim0 (by omega)) rfl ?_
              refine dL rfl rfl (mS rfl ⟨rfl, ?_⟩)
              refine dL rfl rfl (mI rfl ⟨rfl, ?_⟩)
              refine dL rfl rfl (op_indexS el25 rfl rfl (by omega) (by omega) ⟨rfl, ?_⟩)
              refine dL rfl rfl (fA of62_1 rfl ⟨rfl, ?_⟩)
              refine dr_load1 rfl rfl sh23 rfl hgm hlm hcp ?_
              refine dW rfl rfl (oC rfl fc46 rfl ?_)
              obtain ⟨_, s9, hr, rfl, Hc⟩ := atR_ok (x := (may.getD q default).p) hI H.fine (hG1.sl H (by intro p hp; (try simp only [List.mem_cons, List.mem_append, List.not_mem_nil, or_false] at hp ⊢); first | exact hp | simp only [hp, true_or, or_true])) (hG2.sl H (by intro p hp; (try simp only [List.mem_cons, List.mem_append, List.not_mem_nil, or_false] at hp ⊢); first | exact hp | simp only [hp, true_or, or_true])) (by omega) (by have hmo := H.most; (try simp only at hmo); show _ + _ ≤ _; (try simp only); omega)
              refine ⟨_, _, hr, ?_⟩
              clear hr
              have H := H.call0 (HL.wider H.fine (Nat.le_refl _) (fun _ h => h) Hc)
              clear Hc
              have ha1 : atP kt (kt.map (fun q => (bb js bad may q).1)) (may.getD q default).p = (bb js bad may (may.getD q default).p).1 := atP_map hp1
              rw [ha1]
              refine dL rfl rfl (aI rfl ⟨rfl, ?_⟩)
              refine draw_nil ?_
              refine cw_dseq [⟨0, 0, .light, [4]⟩, ⟨1, 0, .light, [0]⟩, ⟨2, 0, .light, [0]⟩, ⟨3, 6, .light, [0]⟩, ⟨4, 14, .light, [0]⟩, ⟨5, 30, .whole, [0]⟩, ⟨6, 63, .whole, []⟩, ⟨7, 127, .light, []⟩] (by kernel_rfl) (by kernel_rfl) ?_
              obtain ⟨bm, ofm, cm0, hem, hgm0, hbm, hcm0⟩ := (hM.kept H).atS (i := (q : Int)) (k := q) rfl (by omega)
              cases hem
              obtain ⟨cm, hgm, hcw, hcp⟩ := (hM.kept H).gotS (k := q) (by omega)
              have hlm : bm < limit := by have hmo := H.most; (try simp only at hmo hbm); omega
              refine dr_loadN rfl rfl sh40 rfl (by exact H.own0) (by exact H.lim0 (by omega)) rfl ?_
              refine dL rfl rfl (mS rfl ⟨rfl, ?_⟩)
              refine dL rfl rfl (mI rfl ⟨rfl, ?_⟩)
              refine dL rfl rfl (op_indexS el25 rfl rfl (by omega) (by omega) ⟨rfl, ?_⟩)
              refine dr_loadN rfl rfl sh62 rfl hgm0 hlm hcm0 ?_
              refine dW rfl rfl (oC rfl fc36 rfl ?_)
              obtain ⟨_, s9, hr, rfl, Hc⟩ := rest_ok (x := (may.getD q default)) hI (Fine.narrow (X := [b10]) H.fine (by intro p hp; rw [List.mem_singleton] at hp; subst hp; exact H.lt0)) (by have hmo := H.most; (try simp only at hmo); show _ + _ ≤ _; (try simp only); omega)
              refine ⟨_, _, hr, ?_⟩
              clear hr
              have H := H.call0 (HL.wider H.fine (Nat.le_refl _) (fun _ h => List.mem_append_right _ h) Hc)
              clear Hc
              refine dW rfl rfl (oC rfl fc46 rfl ?_)
              obtain ⟨_, s9, hr, rfl, Hc⟩ := atR_ok (x := (andNotI (may.getD q default).w (may.getD q default).p)) hI H.fine (hG1.sl H (by intro p hp; (try simp only [List.mem_cons, List.mem_append, List.not_mem_nil, or_false] at hp ⊢); first | exact hp | simp only [hp, true_or, or_true])) (hG2.sl H (by intro p hp; (try simp only [List.mem_cons, List.mem_append, List.not_mem_nil, or_false] at hp ⊢); first | exact hp | simp only [hp, true_or, or_true])) (by omega) (by have hmo := H.most; (try simp only at hmo); show _ + _ ≤ _; (try simp only); omega)
              refine ⟨_, _, hr, ?_⟩
              clear hr
              have H := H.call0 (HL.wider H.fine (Nat.le_refl _) (fun _ h => h) Hc)
              clear Hc
              have ha2 : atP kt (kt.map (fun q => (bb js bad may q).1)) (andNotI (may.getD q default).w (may.getD q default).p) = (bb js bad may (andNotI (may.getD q default).w (may.getD q default).p)).1 := atP_map hp2
              rw [ha2]
              refine dL rfl rfl (aI rfl ⟨rfl, ?_⟩)
              refine draw_nil ?_
              refine cR ?_
              refine oO rfl (mI rfl ?_)
              refine oO rfl (op_lss rfl rfl (fun h => ?_) (fun h => ?_))
              · refine oO rfl (mB rfl ?_)
                refine oO rfl (mI rfl ?_)
                refine oO rfl (op_lss rfl rfl (fun h => ?_) (fun h => ?_))
                · refine oO rfl (k1B rfl rfl ?_)
                  refine ops_nil ?_
                  refine cT rfl ?_
                  refine cG ?_
                  refine oO rfl (mI rfl ?_)
                  refine oO rfl (mI rfl ?_)
                  refine oO rfl (op_add rfl rfl (by unfold In64; omega) ?_)
                  refine oO rfl (mI rfl ?_)
                  refine oO rfl (op_add rfl rfl (by unfold In64; omega) ?_)
                  refine oO rfl (op_min rfl rfl rfl ?_)
                  refine oO rfl (aI rfl ?_)
                  refine ops_nil ?_
                  refine blk_norm ?_
                  refine sN ?_
                  refine cG ?_
                  refine oO rfl (mI rfl ?_)
                  refine oO rfl (op_add rfl rfl (by unfold In64; omega) ?_)
                  refine oO rfl (aI rfl ?_)
                  refine ops_nil ?_
                  refine loop_norm ?_
                  refine ⟨may.length - (q + 1), by omega, _, q + 1, (min n (1 + (bb js bad may (may.getD q default).p).1 + (bb js bad may (andNotI (may.getD q default).w (may.getD q default).p)).1)), slots ⟨rfl, rfl, rfl, rfl, rfl, rfl, rfl, rfl, rfl, rfl, trivial⟩, H.up (by omega), ?_, by omega, rfl⟩
                  rw [numZ_succ (by omega) hnd, stepN, if_neg (by simpa using hxS), ← hn]
                  rw [hxS] at *
                  rw [if_pos ⟨by assumption, by assumption⟩]
                · refine oO rfl (k1B rfl rfl ?_)
                  refine ops_nil ?_
                  refine cE rfl ?_
                  refine cw_skip ?_
                  refine blk_norm ?_
                  refine sN ?_
                  refine cG ?_
                  refine oO rfl (mI rfl ?_)
                  refine oO rfl (op_add rfl rfl (by unfold In64; omega) ?_)
                  refine oO rfl (aI rfl ?_)
                  refine ops_nil ?_
                  refine loop_norm ?_
                  refine ⟨may.length - (q + 1), by omega, _, q + 1, n, slots ⟨rfl, rfl, rfl, rfl, rfl, rfl, rfl, rfl, rfl, rfl, trivial⟩, H.up (by omega), ?_, by omega, rfl⟩
                  rw [numZ_succ (by omega) hnd, stepN, if_neg (by simpa using hxS), ← hn]
                  rw [hxS] at *
                  rw [if_neg (fun hh => by first | exact absurd hh.1 (by assumption) | exact absurd hh.2 (by assumption))]
              · refine oO rfl (mB rfl ?_)
                refine oF rfl ?_
                refine oF rfl ?_
                refine oO rfl (op_pick0C rfl ?_)
                refine ops_nil ?_
                refine cE rfl ?_
                refine cw_skip ?_
                refine blk_norm ?_
                refine sN ?_
                refine cG ?_
                refine oO rfl (mI rfl ?_)
                refine oO rfl (op_add rfl rfl (by unfold In64; omega) ?_)
                refine oO rfl (aI rfl ?_)
                refine ops_nil ?_
                refine loop_norm ?_
                refine ⟨may.length - (q + 1), by omega, _, q + 1, n, slots ⟨rfl, rfl, rfl, rfl, rfl, rfl, rfl, rfl, rfl, rfl, trivial⟩, H.up (by omega), ?_, by omega, rfl⟩
                rw [numZ_succ (by omega) hnd, stepN, if_neg (by simpa using hxS), ← hn]
                rw [hxS] at *
                rw [if_neg (fun hh => by first | exact absurd hh.1 (by assumption) | exact absurd hh.2 (by assumption))]
          · refine oO rfl (mB rfl ?_)
            refine oF rfl ?_
            refine oF rfl ?_
            refine oO rfl (op_pick0C rfl ?_)
            refine ops_nil ?_
            refine cE rfl ?_
            refine cw_exit ?_
            refine seq_exit ?_
            refine loop_exit ?_
            refine blk_here ?_
            refine sN ?_
            have hSr := (hks (ks.getD i 0)).mp (getD_mem (by omega))
            have hS0 := (hSr.range hm hw0).1
            have hnb : n = (bb js bad may (ks.getD i 0)).1 := by first | (rw [hn]; exact numZ_none hm hS0 hnd) | (rw [hn, show q = may.length by omega]; exact numZ_all hm hS0)
            refine cw_dseq [⟨0, 0, .light, [5]⟩, ⟨1, 1, .light, [5]⟩, ⟨2, 0, .light, [1]⟩, ⟨3, 0, .light, [1]⟩, ⟨4, 12, .light, [1]⟩, ⟨5, 28, .light, [1]⟩, ⟨6, 60, .whole, [1]⟩, ⟨7, 127, .whole, []⟩, ⟨8, 255, .light, []⟩, ⟨9, 511, .whole, []⟩] (by kernel_rfl) (by kernel_rfl) ?_
            obtain ⟨_, _, ck, hek, hgk, hbk, hck⟩ := (hkG.sl H (by intro p hp; (try simp only [List.mem_cons, List.mem_append, List.not_mem_nil, or_false] at hp ⊢); first | exact hp | simp only [hp, true_or, or_true])).atD (i := (i : Int)) (k := i) rfl (by omega)
            cases hek
            have hlk : bk < limit := by have hmo := H.most; (try simp only at hmo hbk); omega
            refine dL rfl rfl (fA of40_0 rfl ⟨rfl, ?_⟩)
            refine dr_load1 rfl rfl sh31 rfl (by exact H.own0) (by exact H.lim0 (by omega)) rfl ?_
            refine dL rfl rfl (mS rfl ⟨rfl, ?_⟩)
            refine dL rfl rfl (mI rfl ⟨rfl, ?_⟩)
            refine dL rfl rfl (op_indexS el31 rfl rfl (by omega) (by omega) ⟨rfl, ?_⟩)
            refine dr_load1 rfl rfl sh23 rfl hgk hlk hck ?_
            have Hn := (Fine.narrow (X := [b10]) H.fine (by intro p hp; rw [List.mem_singleton] at hp; subst hp; exact H.lt0)).hl
            refine dW rfl rfl (op_buildSlice (c := [.int _ _]) Hn sl31 rfl rfl (by have hmo := H.most; (try simp only at hmo); show _ + _ < _; (try simp only); omega) (fun b87 s87 Hc => ?_))
            have H := H.call (HL.wider H.fine (Nat.le_refl _) (fun _ h => List.mem_append_right _ h) Hc)
            clear Hc
            simp only [List.cons_append, List.nil_append] at H
            have hgt := H.own0
            have H := H.drop0
            rw [← List.append_assoc Dk P2 P1] at H
            have H := HL.swap (A := _ :: _ :: (Dk ++ P2)) (B := P1) H
            have H00 := H
            refine dW rfl rfl (op_appendOwn H ho1 sl31 un31 rfl rfl rfl (elems_all hgt rfl) (by decide) rfl rfl (by omega) (by omega) (fun b88 s88 H ho1 => ?_))
            have H := HL.back H00 H
            clear H00
            refine dL rfl rfl (fA of40_0 rfl ⟨rfl, ?_⟩)
            refine dr_store1 (vs := [.slice _ _ _]) (fr := []) H rfl rfl sz31 rfl rfl rfl rfl rfl rfl (by simp) (by omega) (fun s97 H => ?_)
            refine draw_nil ?_
            refine cG ?_
            refine oO rfl (fA of40_1 rfl ?_)
            refine oO rfl (lO sh22 rfl (by exact H.own1) rfl ?_)
            refine oO rfl (mI rfl ?_)
            refine oO rfl (op_buildSlice (c := [.int _ _]) H sl22 rfl rfl (by omega) (fun b93 s7 H => ?_))
            have hgt := H.own0
            have H := H.drop0
            have H := HL.swap (A := _ :: _ :: _ :: Dk) (B := P2) H
            refine oO rfl (op_appendOwn H ho2 sl22 un22 rfl rfl rfl (elems_all hgt rfl) (by decide) rfl rfl (by omega) (by omega) (fun b94 s94 H ho2 => ?_))
            refine oO rfl (fA of40_1 rfl ?_)
            refine oO rfl (op_store2 (vs := [.slice _ _ _]) H sz22 rfl rfl rfl rfl rfl (by omega) (fun s8 H => ?_))
            refine ops_nil ?_
            refine blk_norm ?_
            refine sN ?_
            refine cG ?_
            refine oO rfl (mI rfl ?_)
            refine oO rfl (op_add rfl rfl (by unfold In64; omega) ?_)
            refine oO rfl (aI rfl ?_)
            refine ops_nil ?_
            refine loop_norm ?_
            refine ⟨ks.length - (i + 1), by omega, _, i + 1, [(b88, .cells (ints kt ++ [.int .i64 (ks.getD i 0)]) 23)], [(b94, .cells (ints (kt.map (fun q => (bb js bad may q).1)) ++ [.int .i64 n]) 3)], some ⟨b88, 0, none⟩, some ⟨b94, 0, none⟩, 2 * (kt.length + 1) + 1, 2 * ((kt.map (fun q => (bb js bad may q).1)).length + 1) + 1, kt ++ [ks.getD i 0], slots ⟨rfl, rfl, rfl, rfl, rfl, rfl, rfl, rfl, trivial⟩, ?_, ?_, ?_, ?_, by simp; omega, by omega, rfl⟩
            · rw [List.length_append, List.map_append, List.length_append]
              exact (HL.swap (A := [_, _]) (B := _ :: _ :: Dk) H).up (by omega)
            · rw [ints_append, List.length_append]
              exact ho1
            · rw [List.map_append, ints_append, List.length_append]
              simp only [List.map_cons, List.map_nil]
              rw [← hnb]
              exact ho2
            · rw [List.take_succ_eq_append_getElem (show i < ks.length by omega), ← hkt]
              simp [List.getD_eq_getElem?_getD, List.getElem?_eq_getElem (show i < ks.length by omega)]
        · refine ⟨_, 0, _, slots ⟨rfl, rfl, rfl, rfl, rfl, rfl, rfl, rfl, rfl, rfl, trivial⟩, H, ?_, by omega, by omega⟩
          unfold numZ
          rw [hnd]
          rfl
    · refine ops_nil ?_
      refine cE rfl ?_
      refine cw_exit ?_
      refine seq_exit ?_
      refine loop_exit ?_
      refine blk_here ?_
      refine sN ?_
      refine cR ?_
      refine oO rfl (lN sh40 rfl (by exact H.own0) rfl ?_)
      refine oO rfl (op_store1 (vs := [.slice _ _ _, .slice _ _ _]) H sz40 rfl rfl rfl rfl rfl (by omega) (fun s9 H => ?_))
      refine ops_nil ?_
      refine cw_ret ?_
      refine ret_end ?_
      refine end_cell sh40 rfl (by exact H.own1) rfl ?_
      have hi2 : i = ks.length := by omega
      rw [hi2, List.take_length] at hkt
      subst hkt
      refine ⟨_, ⟨psa, kt.length, psc⟩, ⟨pla, _, plc⟩, kt, rfl, H.up (by omega), hinc, hks, hG1.mono ?_, hG2.mono ?_⟩
      · intro p hp
        simp only [List.mem_cons, List.mem_append, hp, true_or, or_true]
      · intro p hp
        simp only [List.mem_cons, List.mem_append, hp, true_or, or_true]
  · refine ⟨_, 0, [], [], none, none, 0, 0, [], slots ⟨rfl, rfl, rfl, rfl, rfl, rfl, rfl, rfl, trivial⟩, ?_, .nil, .nil, by simp, rfl, by omega, by omega⟩
    simp only [List.append_nil]
    exact H

end Go.Proofs.YtdejleegamcioaaGreat
