/- undo.Least, up to the loop over what is known. -/
/- undo.Least, behind the loop over what is known. -/
/- undo.Least as a function of this machine: the loop over the map in one step. -/
/- undo.Least, for proper arguments: what it returns. -/
/- Slots that code does not read do not matter. -/
/- Slots that code does not read do not matter: on the machine itself. -/
import Derived.Test.YtdejleegamcioaaGreatM23
import Derived.Test.YtdejleegamcioaaGreatM08
namespace Go.Proofs.YtdejleegamcioaaGreat
open Go Go.M

theorem bf36 : buildF Tryz.prog 36 = some ([.slice none 0 0, .slice none 0 0], [(0, 1), (1, 1)]) := by kernel_rfl
theorem fc40 : funcF Tryz.prog 40 = true := by kernel_rfl
theorem sz96 : sizeF Tryz.prog 96 = some 1 := by kernel_rfl
theorem sz97 : sizeF Tryz.prog 97 = some 1 := by kernel_rfl
theorem zf96 : zeroF Tryz.prog 96 = some [.map none] := by kernel_rfl
theorem zf97 : zeroF Tryz.prog 97 = some [.nilFunc] := by kernel_rfl

/-- The first statements of some; the others. -/
def takeS : Nat → Code → Code
  | 0, _ => .skip
  | 1, .seq x _ => x
  | n + 2, .seq x y => .seq x (takeS (n + 1) y)
  | _ + 1, c => c
def dropS : Nat → Code → Code
  | 0, c => c
  | n + 1, .seq _ y => dropS n y
  | _ + 1, c => c
noncomputable def leastBody : Code := Tryz.f12.body.getD .skip
noncomputable def leastPre : Code := takeS 8 leastBody
noncomputable def leastTail : Code := dropS 10 leastBody
/-- Where the first statements lead. -/
def PreQ (js : List (Int × Int)) (bad : Int) (may : List Sp) (w : Int) (s : St) (N : Nat) : FOut → Prop
  | .ret F s' => (bb js bad may w).1 = 65536 ∧ ∃ (b10 : Nat), F 8 = .slice none 0 0 ∧ F 9 = .int .i64 0 ∧ F 10 = ptr b10 ∧ F 11 = .int .i64 6 ∧ HL [] s s' [(b10, .cells [.slice none 0 0, .slice none 0 0] 36)] N
  | .normal F s' => (bb js bad may w).1 < 65536 ∧ ∃ (G : FF) (b10 bK b16 r : Nat) (E : List Ent), F = lay G [(0, .int .i64 w), (10, ptr b10), (13, ptr bK), (15, .int .i64 (bb js bad may w).1), (16, ptr b16)] ∧ Good js bad may E ∧ w ∈ keysE E ∧ E.length ≤ 65535 ∧
      HL [] s s' [(b16, .cells [.slice none 0 0, .slice none 0 0] 36), (bK, .cells [.map (some r)] 96), (r, mapO E), (b10, .cells [.slice none 0 0, .slice none 0 0] 36)] N
  | _ => False
theorem nodup_len : ∀ (N : Nat) (l : List Int), l.Nodup → (∀ x ∈ l, 0 < x ∧ x ≤ (N : Int)) → l.length ≤ N
  | 0, l, _, h => by
    cases l with
    | nil => simp
    | cons x l => have := h x (by simp); omega
  | N + 1, l, hn, h => by
    have h1 := nodup_len N (l.filter fun x => decide (x ≠ ((N + 1 : Nat) : Int))) (hn.filter _) (by
      intro x hx
      rw [List.mem_filter] at hx
      have := h x hx.1
      have h2 := hx.2
      simp only [decide_eq_true_eq] at h2
      omega)
    have h2 : l.count ((N + 1 : Nat) : Int) ≤ 1 := List.nodup_iff_count.mp hn _
    have h3 := List.length_eq_countP_add_countP (fun x => decide (x = ((N + 1 : Nat) : Int))) (l := l)
    have h4 : l.countP (fun x => decide (x = ((N + 1 : Nat) : Int))) = l.count ((N + 1 : Nat) : Int) := by
      rw [List.count]
      congr 1
    have h5 : l.countP (fun a => !decide (a = ((N + 1 : Nat) : Int))) = (l.filter fun x => decide (x ≠ ((N + 1 : Nat) : Int))).length := by
      rw [List.countP_eq_length_filter]
      congr 2
      funext x
      simp
    have h6 : l.countP (fun a => decide (¬ decide (a = ((N + 1 : Nat) : Int)) = true)) = l.countP (fun a => !decide (a = ((N + 1 : Nat) : Int))) := by
      congr 1
      funext x
      simp
    omega
/-- The joins are proper. -/
theorem joinsB_of {js : List (Int × Int)} (h : ∀ j ∈ js, joinB j ∧ j.1 ≠ j.2) : joinsB js = true := by
  induction js with
  | nil => rfl
  | cons j r ih =>
    have h1 := h j (by simp)
    unfold joinB at h1
    rw [joinsB, ih fun x hx => h x (by simp [hx])]
    simp only [Bool.and_true, Bool.not_eq_true', Bool.or_eq_false_iff, decide_eq_false_iff_not]
    omega
theorem err_ok {w bad : Int} {js : List (Int × Int)} {may : List Sp} (hj : ∀ j ∈ js, joinB j ∧ j.1 ≠ j.2) (hjl : js.length ≤ 16) (hm : MayOK may) (hml : may.length ≤ 4096) (hw0 : 0 < w) (hw1 : w < 65536) (hb0 : 0 ≤ bad) (hb1 : bad < 2 ^ js.length) : errZ w js bad may = 0 := by
  unfold errZ
  rw [if_neg (by omega), if_neg (by omega), if_neg, if_pos (joinsB_of hj)]
  rw [List.any_eq_true]
  rintro ⟨x, hx, hs⟩
  rw [(hm x hx).1] at hs
  cases hs

set_option maxHeartbeats 4000000 in
set_option maxRecDepth 10000 in
theorem pre_ok {I : Table} (hI : Plain I) {s : St} (hf : Fine s) {w bad : Int} {vj vm : Value} {js : List (Int × Int)} {may : List Sp} (hJ : Sl s 30 2 vj (js.map jc)) (hM : Sl s 62 10 vm (may.map Sp.cells)) (hj : ∀ j ∈ js, joinB j ∧ j.1 ≠ j.2) (hjl : js.length ≤ 16) (hm : MayOK may) (hml : may.length ≤ 15) (hw0 : 0 < w) (hw1 : w < 65536) (hb0 : 0 ≤ bad) (hb1 : bad < 2 ^ js.length) (hroom : s.next + (10020 + tb may (w.toNat + 1) w) ≤ limit) :
    CodeW Tryz.prog I leastPre (frameOf #[.int .i64 w, vj, .int .i64 bad, vm]) s (PreQ js bad may w s (10020 + tb may (w.toNat + 1) w)) := by
  have H := hf.hl
  obtain ⟨ja, jn, jcp, rfl, hjn⟩ := hJ.isSlice
  obtain ⟨ma, mn, mcp, rfl, hmn⟩ := hM.isSlice
  have herr := err_ok hj hjl hm (by omega) hw0 hw1 hb0 hb1
  have hrg := bb_range (js := js) (bad := bad) (may := may) w
  refine cw_rseq ?_
  first | refine ops_on rfl (op_boxS H rfl (by omega) (fun b5 s1 H => ?_)) | refine ops_on rfl (op_box H rfl (by omega) (fun b5 s1 H => ?_))
  first | refine ops_on rfl (op_boxI H rfl (by omega) (fun b6 s2 H => ?_)) | refine ops_on rfl (op_box H rfl (by omega) (fun b6 s2 H => ?_))
  first | refine ops_on rfl (op_boxS H rfl (by omega) (fun b7 s3 H => ?_)) | refine ops_on rfl (op_box H rfl (by omega) (fun b7 s3 H => ?_))
  refine ops_on rfl (op_assignC ?_)
  refine ops_on rfl (op_assignC ?_)
  refine ops_on rfl (op_alloc H zf36 (by omega) (fun b10 s4 H => ?_))
  refine ops_on rfl (op_assignC ?_)
  refine ops_nil ?_
  refine cw_seq ?_
  refine cw_rseq ?_
  first | refine ops_on rfl (op_moveI rfl ?_) | refine ops_on rfl (op_move ?_)
  refine ops_on rfl (op_load1 sh24 rfl (by first | exact H.own0 | exact H.own1 | exact H.own2 | exact H.own3 | exact H.own4 | exact H.own5 | exact H.ownA | assumption) rfl ?_)
  refine ops_on rfl (op_load1 sh23 rfl (by first | exact H.own0 | exact H.own1 | exact H.own2 | exact H.own3 | exact H.own4 | exact H.own5 | exact H.ownA | assumption) rfl ?_)
  refine ops_on rfl (op_load1 sh25 rfl (by first | exact H.own0 | exact H.own1 | exact H.own2 | exact H.own3 | exact H.own4 | exact H.own5 | exact H.ownA | assumption) rfl ?_)
  refine ops_on rfl (op_call rfl fc40 rfl ?_)
  obtain ⟨_, s9, hr, rfl, Hc⟩ := valid_args_ok (w := w) (bad := bad) hI H.fine (hJ.kept H) (hM.kept H) (by have := H.most; omega)
  refine ⟨_, _, hr, ?_⟩
  clear hr
  have H := H.call0 Hc
  clear Hc
  rw [herr]
  first | refine ops_on rfl (op_assignI rfl ?_) | refine ops_on rfl (op_assign ?_)
  refine ops_nil ?_
  refine cw_rseq ?_
  first | refine ops_on rfl (op_moveI rfl ?_) | refine ops_on rfl (op_move ?_)
  refine ops_on rfl (op_neq rfl rfl (fun h => False.elim (by exact h rfl)) (fun h => ?_))
  refine ops_nil ?_
  refine cw_else rfl ?_
  refine cw_skip ?_
  refine seq_norm ?_
  refine cw_rseq ?_
  refine ops_on rfl (op_makeMap H (by omega) (fun b31 s31 H => ?_))
  refine ops_on rfl (op_alloc H zf96 (by omega) (fun b13 s5 H => ?_))
  first | refine ops_on rfl (op_store0 (vs := [.map _]) H sz96 rfl rfl rfl rfl rfl (by omega) (fun s6 H => ?_)) | refine ops_on rfl (op_store1 (vs := [.map _]) H sz96 rfl rfl rfl rfl rfl (by omega) (fun s6 H => ?_)) | refine ops_on rfl (op_store2 (vs := [.map _]) H sz96 rfl rfl rfl rfl rfl (by omega) (fun s6 H => ?_)) | refine ops_on rfl (op_store3 (vs := [.map _]) H sz96 rfl rfl rfl rfl rfl (by omega) (fun s6 H => ?_)) | refine ops_on rfl (op_store4 (vs := [.map _]) H sz96 rfl rfl rfl rfl rfl (by omega) (fun s6 H => ?_)) | refine ops_on rfl (op_store0 H sz96 rfl rfl rfl rfl rfl (by omega) (fun s6 H => ?_)) | refine ops_on rfl (op_store1 H sz96 rfl rfl rfl rfl rfl (by omega) (fun s6 H => ?_)) | refine ops_on rfl (op_store2 H sz96 rfl rfl rfl rfl rfl (by omega) (fun s6 H => ?_)) | refine ops_on rfl (op_store3 H sz96 rfl rfl rfl rfl rfl (by omega) (fun s6 H => ?_)) | refine ops_on rfl (op_store4 H sz96 rfl rfl rfl rfl rfl (by omega) (fun s6 H => ?_))
  refine ops_nil ?_
  refine cw_rseq ?_
  refine ops_on rfl (op_alloc H zf97 (by omega) (fun b14 s7 H => ?_))
  refine ops_nil ?_
  refine cw_rseq ?_
  refine ops_on rfl (op_makeFunc ?_)
  first | refine ops_on rfl (op_store0 (vs := [_]) H sz97 rfl rfl rfl rfl rfl (by omega) (fun s8 H => ?_)) | refine ops_on rfl (op_store1 (vs := [_]) H sz97 rfl rfl rfl rfl rfl (by omega) (fun s8 H => ?_)) | refine ops_on rfl (op_store2 (vs := [_]) H sz97 rfl rfl rfl rfl rfl (by omega) (fun s8 H => ?_)) | refine ops_on rfl (op_store3 (vs := [_]) H sz97 rfl rfl rfl rfl rfl (by omega) (fun s8 H => ?_)) | refine ops_on rfl (op_store4 (vs := [_]) H sz97 rfl rfl rfl rfl rfl (by omega) (fun s8 H => ?_)) | refine ops_on rfl (op_store0 H sz97 rfl rfl rfl rfl rfl (by omega) (fun s8 H => ?_)) | refine ops_on rfl (op_store1 H sz97 rfl rfl rfl rfl rfl (by omega) (fun s8 H => ?_)) | refine ops_on rfl (op_store2 H sz97 rfl rfl rfl rfl rfl (by omega) (fun s8 H => ?_)) | refine ops_on rfl (op_store3 H sz97 rfl rfl rfl rfl rfl (by omega) (fun s8 H => ?_)) | refine ops_on rfl (op_store4 H sz97 rfl rfl rfl rfl rfl (by omega) (fun s8 H => ?_))
  refine ops_nil ?_
  refine cw_rseq ?_
  refine ops_on rfl (op_load1 sh97 rfl (by first | exact H.own0 | exact H.own1 | exact H.own2 | exact H.own3 | exact H.own4 | exact H.own5 | exact H.ownA | assumption) rfl ?_)
  first | refine ops_on rfl (op_moveI rfl ?_) | refine ops_on rfl (op_move ?_)
  refine ops_on rfl (op_call rfl fc41 rfl ?_)
  have hst : OfSt _ b31 b13 b5 b6 b7 b14 (.slice ja jn jcp) bad (.slice ma mn mcp) js may [] := ⟨H.own1, H.lt1, H.own6, H.lt6, H.own5, H.lt5, H.own4, H.lt4, H.own0, H.lt0, H.own2, H.lt2, (H.own (b31, mapO []) (by simp)).2.2.1, hJ.kept H, hM.kept H⟩
  obtain ⟨_, s9, hr, E, rfl, Hc, hg, hk, X, hX, hXb, hXl⟩ := of_ok hI (fun j hj2 => (hj j hj2).1) hjl hm (by omega) (w.toNat + 1) w hw0 (by omega) _ [] H.fine hst ⟨by simp [keysE], (by intro e he; cases he), (by intro e he; cases he)⟩ (by have := H.most; omega)
  refine ⟨_, _, hr, ?_⟩
  clear hr
  have hEl : E.length ≤ 65535 := by
    have h1 := nodup_len 65535 (keysE E) hg.nodup (by
      intro x hx
      obtain ⟨e, he, rfl⟩ := List.mem_map.mp hx
      rw [hX, List.nil_append] at he
      have := hXb e he
      omega)
    simpa [keysE] using h1
  have H := HL.callW (A := [(b31, mapO [])]) (L := [_, _, _, _, _, _]) (HL.mid (A := [_, _]) (B := [_]) (C := [_, _, _, _]) H) Hc (by intro b hb; rw [List.mem_singleton] at hb; subst hb; exact ⟨_, List.mem_singleton.mpr rfl⟩) (by intro p hp; rw [List.mem_singleton] at hp; subst hp; simp)
  clear Hc
  simp only [List.cons_append, List.nil_append] at H
  first | refine ops_on rfl (op_assignI rfl ?_) | refine ops_on rfl (op_assign ?_)
  refine ops_nil ?_
  refine cw_seq ?_
  refine cw_rseq ?_
  first | refine ops_on rfl (op_moveI rfl ?_) | refine ops_on rfl (op_move ?_)
  refine ops_on rfl (op_eql rfl rfl (fun h => ?_) (fun h => ?_))
  · refine ops_nil ?_
    refine cw_then rfl ?_
    refine cw_rseq ?_
    first | refine ops_on rfl (op_build (c := [.slice _ _ _, .slice _ _ _]) bf36 rfl ?_) | refine ops_on rfl (op_build bf36 rfl ?_)
    refine ops_on rfl (op_assignC ?_)
    refine ops_on rfl (op_assignC ?_)
    first | refine ops_on rfl (op_store0 (vs := [.slice _ _ _, .slice _ _ _]) H sz36 rfl rfl rfl rfl rfl (by omega) (fun s9 H => ?_)) | refine ops_on rfl (op_store1 (vs := [.slice _ _ _, .slice _ _ _]) H sz36 rfl rfl rfl rfl rfl (by omega) (fun s9 H => ?_)) | refine ops_on rfl (op_store2 (vs := [.slice _ _ _, .slice _ _ _]) H sz36 rfl rfl rfl rfl rfl (by omega) (fun s9 H => ?_)) | refine ops_on rfl (op_store3 (vs := [.slice _ _ _, .slice _ _ _]) H sz36 rfl rfl rfl rfl rfl (by omega) (fun s9 H => ?_)) | refine ops_on rfl (op_store4 (vs := [.slice _ _ _, .slice _ _ _]) H sz36 rfl rfl rfl rfl rfl (by omega) (fun s9 H => ?_)) | refine ops_on rfl (op_store0 H sz36 rfl rfl rfl rfl rfl (by omega) (fun s9 H => ?_)) | refine ops_on rfl (op_store1 H sz36 rfl rfl rfl rfl rfl (by omega) (fun s9 H => ?_)) | refine ops_on rfl (op_store2 H sz36 rfl rfl rfl rfl rfl (by omega) (fun s9 H => ?_)) | refine ops_on rfl (op_store3 H sz36 rfl rfl rfl rfl rfl (by omega) (fun s9 H => ?_)) | refine ops_on rfl (op_store4 H sz36 rfl rfl rfl rfl rfl (by omega) (fun s9 H => ?_))
    refine ops_on rfl (op_assignC ?_)
    refine ops_nil ?_
    refine cw_ret ?_
    refine seq_ret ?_
    refine ⟨by omega, b10, rfl, rfl, rfl, rfl, ?_⟩
    exact (H.sub (L' := [(b10, .cells [.slice none 0 0, .slice none 0 0] 36)]) (.cons _ (.cons _ (.cons _ (.cons_cons _ (List.nil_sublist _)))))).up (by omega)
  · refine ops_nil ?_
    refine cw_else rfl ?_
    refine cw_skip ?_
    refine seq_norm ?_
    refine cw_region ?_
    refine ops_on rfl (op_alloc H zf36 (by omega) (fun b16 s10 H => ?_))
    refine ops_nil ?_
    refine ⟨by omega, _, b10, b13, b16, b31, E, slots ⟨rfl, rfl, rfl, rfl, rfl, trivial⟩, hg, hk, by omega, ?_⟩
    have H2 := H.sub (L' := [(b16, _), (b31, _), (b13, _), (b10, _)]) (.cons_cons _ (.cons_cons _ (.cons _ (.cons_cons _ (.cons_cons _ (List.nil_sublist _))))))
    exact (HL.perm H2 (List.Perm.cons _ (List.Perm.swap _ _ _))).up (by omega)

end Go.Proofs.YtdejleegamcioaaGreat
namespace Go.Proofs.YtdejleegamcioaaGreat
open Go Go.M

theorem of36_0 : offF Tryz.prog 36 0 = some 0 := by kernel_rfl
theorem of36_1 : offF Tryz.prog 36 1 = some 1 := by kernel_rfl
theorem pf99_0 : partF Tryz.prog 99 0 = some (some (none), 0) := by kernel_rfl
theorem sh31 : shapeOf Tryz.prog 31 = some (none) := by kernel_rfl
theorem sh36 : shapeOf Tryz.prog 36 = some (some 2) := by kernel_rfl
theorem sz103 : sizeF Tryz.prog 103 = some 1 := by kernel_rfl
theorem sz22 : sizeF Tryz.prog 22 = some 1 := by kernel_rfl
theorem zf103 : zeroF Tryz.prog 103 = some [.nilFunc] := by kernel_rfl
theorem zf25 : zeroF Tryz.prog 25 = some [.slice none 0 0] := by kernel_rfl

set_option maxHeartbeats 4000000 in
set_option maxRecDepth 10000 in
theorem tail_ok {I : Table} (hI : Plain I) {s s2 : St} {G : FF} {w bad : Int} {js : List (Int × Int)} {may : List Sp} (hm : MayOK may) (hw0 : 0 < w) (hw1 : w < 65536) (hbb : (bb js bad may w).1 < 65536) {b10 bK b16 bS r cS n0 : Nat} {E : List Ent} {ks : List Int} (hg : Good js bad may E) (hk : w ∈ keysE E) (hks : ∀ x ∈ ks, x ∈ keysE E) (hkl : ks.length ≤ 10000000)
    (H : HL [] s s2 [(b16, .cells [.slice (some ⟨bS, 0, none⟩) ks.length cS, .slice none 0 0] 36), (bS, .cells (ints ks) 23), (bK, .cells [.map (some r)] 96), (r, mapO E), (b10, .cells [.slice none 0 0, .slice none 0 0] 36)] n0) (hroom : s.next + (n0 + 2 * ks.length + 400000) ≤ limit) :
    CodeW Tryz.prog I leastTail (lay G [(0, .int .i64 w), (10, ptr b10), (13, ptr bK), (15, .int .i64 (bb js bad may w).1), (16, ptr b16)]) s2
      (retQ Tryz.prog Tryz.f12.results.toList fun v' s' => ∃ (D : Hp') (sx p1 p2 : Slc), v' = .tuple ⟨[sx.v, .int .i64 (bb js bad may w).1, .agg ⟨[p1.v, p2.v]⟩, .int .i64 0]⟩ ∧ HL [] s s' D (n0 + 2 * ks.length + 400000) ∧ SlG D 62 10 sx.v ((tk js bad may (w.toNat + 1) w).map Sp.cells)) := by
  have hrg := bb_range (js := js) (bad := bad) (may := may) w
  have hkb : b16 ≠ b10 := by have hd := H.dist; simp only [List.pairwise_cons, List.mem_cons, List.not_mem_nil, or_false, forall_eq_or_imp, forall_eq] at hd; omega
  refine cw_seq ?_
  refine cw_rseq ?_
  refine ops_on rfl (op_fieldAddr of36_0 rfl ?_)
  refine ops_on rfl (op_load1 sh31 rfl (by first | exact H.own0 | exact H.own1 | exact H.own2 | exact H.own3 | exact H.own4 | exact H.own5 | exact H.own6 | exact H.own7 | exact H.own8 | exact H.ownA | assumption) rfl ?_)
  refine ops_on rfl (op_len un31 rfl rfl rfl ?_)
  refine ops_on rfl (op_moveC ?_)
  refine ops_nil ?_
  refine cw_block ?_
  refine cw_loop (fun k F s1 => ∃ (G : FF) (i : Nat) (D2 : Hp') (so : Slc) (ls : List Int), F = lay G [(0, .int .i64 w), (10, ptr b10), (13, ptr bK), (15, .int .i64 (bb js bad may w).1), (16, ptr b16), (55, .slice (some ⟨bS, 0, none⟩) ks.length cS), (56, .int .i64 (ks.length : Int)), (57, .int .i64 (i : Int))] ∧ HL [] s s1 ([(b16, .cells [.slice (some ⟨bS, 0, none⟩) ks.length cS, so.v] 36), (bS, .cells (ints ks) 23), (bK, .cells [.map (some r)] 96), (r, mapO E), (b10, .cells [.slice none 0 0, .slice none 0 0] 36)] ++ D2) (n0 + 2 * i) ∧ Own 3 1 D2 so.v (ints ls) ls.length ∧ ls.length = i ∧ i ≤ ks.length ∧ k = ks.length - i) ?_ ks.length _ _ ?_
  · rintro k F s1 ⟨G, i, D2, so, ls, rfl, H, ho, hli, hi, rfl⟩
    refine cw_rseq ?_
    refine ops_on rfl (op_lss rfl rfl (fun h => ?_) (fun h => ?_))
    · refine ops_nil ?_
      refine cw_seq ?_
      refine cw_then rfl ?_
      refine cw_skip ?_
      refine seq_norm ?_
      refine cw_seq ?_
      refine cw_block ?_
      refine cw_rseq ?_
      refine ops_on rfl (op_indexS el31 rfl rfl (by omega) (by omega) ?_)
      refine ops_on rfl (op_load1 sh23 rfl H.own1 (lget_ints' (k := i) (by omega) (by omega)) ?_)
      first | refine ops_on rfl (op_assignI rfl ?_) | refine ops_on rfl (op_assign ?_)
      refine ops_nil ?_
      refine cw_region ?_
      refine ops_on rfl (op_fieldAddr of36_1 rfl ?_)
      refine ops_on rfl (op_load1 sh22 rfl (by first | exact H.own0 | exact H.own1 | exact H.own2 | exact H.own3 | exact H.own4 | exact H.own5 | exact H.own6 | exact H.own7 | exact H.own8 | exact H.ownA | assumption) rfl ?_)
      refine ops_on rfl (op_load1 sh96 rfl (by first | exact H.own0 | exact H.own1 | exact H.own2 | exact H.own3 | exact H.own4 | exact H.own5 | exact H.own6 | exact H.own7 | exact H.own8 | exact H.ownA | assumption) rfl ?_)
      first | refine ops_on rfl (op_moveI rfl ?_) | refine ops_on rfl (op_move ?_)
      obtain ⟨e, hfe⟩ := find_of_key (hks (ks.getD i 0) (getD_mem (by omega)))
      refine ops_on rfl (op_lookupSome (e := e) un96 un23 rfl rfl H.own3 hfe ?_)
      refine ops_on rfl (op_field pf99_0 rfl rfl ?_)
      first | refine ops_on rfl (op_buildSlice (c := [.int _ _]) H sl22 rfl rfl (by omega) (fun b67 s1 H => ?_)) | refine ops_on rfl (op_buildSlice H sl22 rfl rfl (by omega) (fun b67 s1 H => ?_))
      have hgt := H.own0
      have H := HL.swap (A := [_, _, _, _, _]) (B := D2) H.drop0
      refine ops_on rfl (op_appendOwn H ho sl22 un22 rfl rfl rfl (elems_all hgt rfl) (by decide) rfl rfl (by omega) (by omega) (fun b68 s68 H ho => ?_))
      refine ops_on rfl (op_fieldAddr of36_1 rfl ?_)
      refine ops_on rfl (op_store1 (vs := [.slice _ _ _]) H sz22 rfl rfl rfl rfl rfl (by omega) (fun s2 H => ?_))
      refine ops_nil ?_
      refine blk_norm ?_
      refine seq_norm ?_
      refine cw_region ?_
      refine ops_on rfl (op_add rfl rfl (by unfold In64; omega) ?_)
      first | refine ops_on rfl (op_moveI rfl ?_) | refine ops_on rfl (op_move ?_)
      refine ops_nil ?_
      refine loop_norm ?_
      refine ⟨ks.length - (i + 1), by omega, _, i + 1, [(b68, .cells (ints ls ++ [.int .i64 e.n]) 3)], ⟨some ⟨b68, 0, none⟩, ls.length + 1, 2 * (ls.length + 1) + 1⟩, ls ++ [e.n], slots ⟨rfl, rfl, rfl, rfl, rfl, rfl, rfl, rfl, trivial⟩, ?_, ?_, by simp; omega, by omega, rfl⟩
      · exact (HL.swap (A := [_]) (B := [_, _, _, _, _]) H).up (by omega)
      · rw [ints_append, List.length_append]
        exact ho
    · refine ops_nil ?_
      refine cw_seq ?_
      refine cw_else rfl ?_
      refine cw_exit ?_
      refine seq_exit ?_
      refine loop_exit ?_
      refine blk_here ?_
      refine seq_norm ?_
      refine cw_rseq ?_
      refine ops_on rfl (op_alloc H zf25 (by omega) (fun b20 s3 H => ?_))
      refine ops_nil ?_
      refine cw_rseq ?_
      refine ops_on rfl (op_alloc H zf103 (by omega) (fun b21 s4 H => ?_))
      refine ops_nil ?_
      refine cw_rseq ?_
      refine ops_on rfl (op_makeFunc ?_)
      first | refine ops_on rfl (op_store0 (vs := [_]) H sz103 rfl rfl rfl rfl rfl (by omega) (fun s5 H => ?_)) | refine ops_on rfl (op_store1 (vs := [_]) H sz103 rfl rfl rfl rfl rfl (by omega) (fun s5 H => ?_)) | refine ops_on rfl (op_store2 (vs := [_]) H sz103 rfl rfl rfl rfl rfl (by omega) (fun s5 H => ?_)) | refine ops_on rfl (op_store3 (vs := [_]) H sz103 rfl rfl rfl rfl rfl (by omega) (fun s5 H => ?_)) | refine ops_on rfl (op_store4 (vs := [_]) H sz103 rfl rfl rfl rfl rfl (by omega) (fun s5 H => ?_)) | refine ops_on rfl (op_store0 H sz103 rfl rfl rfl rfl rfl (by omega) (fun s5 H => ?_)) | refine ops_on rfl (op_store1 H sz103 rfl rfl rfl rfl rfl (by omega) (fun s5 H => ?_)) | refine ops_on rfl (op_store2 H sz103 rfl rfl rfl rfl rfl (by omega) (fun s5 H => ?_)) | refine ops_on rfl (op_store3 H sz103 rfl rfl rfl rfl rfl (by omega) (fun s5 H => ?_)) | refine ops_on rfl (op_store4 H sz103 rfl rfl rfl rfl rfl (by omega) (fun s5 H => ?_))
      refine ops_nil ?_
      refine cw_rseq ?_
      refine ops_on rfl (op_load1 sh103 rfl (by first | exact H.own0 | exact H.own1 | exact H.own2 | exact H.own3 | exact H.own4 | exact H.own5 | exact H.own6 | exact H.own7 | exact H.own8 | exact H.ownA | assumption) rfl ?_)
      first | refine ops_on rfl (op_moveI rfl ?_) | refine ops_on rfl (op_move ?_)
      refine ops_on rfl (op_call rfl fc44 rfl ?_)
      have hst : TkSt _ r bK b20 b21 E [] ⟨none, 0, 0⟩ [] := ⟨H.own4, H.lt4, H.own0, H.lt0, H.own5, H.lt5, (by intro p hp; rw [List.mem_singleton] at hp; subst hp; exact ⟨H.own1, H.lt1, (H.own (b20, .cells [.slice none 0 0] 25) (by simp)).2.2.1⟩), by simp, .nil⟩
      obtain ⟨_, s9, hr, D3, so3, rfl, Hc, ho3⟩ := take_ok hI hm hg (w.toNat + 1) w hw0 (by omega) hk hbb _ [] ⟨none, 0, 0⟩ [] H.fine hst (by simp; omega) (by have := H.most; omega)
      refine ⟨_, _, hr, ?_⟩
      clear hr
      have H := HL.callW (A := [_]) (L := _ :: _ :: _ :: _ :: _ :: _ :: D2) (HL.mid (A := [_]) (B := [_]) (C := _ :: _ :: _ :: _ :: _ :: D2) H) Hc (by intro b hb; simp only [List.map_nil, List.mem_singleton] at hb; subst hb; exact ⟨_, List.mem_singleton.mpr rfl⟩) (by intro p hp; rw [List.mem_singleton] at hp; subst hp; simp)
      clear Hc
      have H := HL.mid (A := _ :: D3) (B := [_, _, _, _, _, _]) (C := D2) H
      simp only [List.cons_append, List.nil_append] at H
      refine ops_nil ?_
      refine cw_dseq [⟨0, 0, .light, [2]⟩, ⟨1, 0, .light, [0, 2]⟩, ⟨2, 0, .light, [0]⟩, ⟨3, 1, .light, [2]⟩, ⟨4, 11, .light, [2]⟩, ⟨5, 31, .whole, []⟩, ⟨6, 63, .light, []⟩] (by kernel_rfl) (by kernel_rfl) ?_
      refine dr_load1 rfl rfl sh25 rfl (by first | exact H.own0 | exact H.own1 | exact H.own2 | exact H.own3 | exact H.own4 | exact H.own5 | exact H.own6 | exact H.own7 | exact H.own8 | exact H.ownA | assumption) (by first | exact H.lim0 (by omega) | exact H.lim1 (by omega) | exact H.lim2 (by omega) | exact H.lim3 (by omega) | exact H.lim4 (by omega) | exact H.lim5 (by omega) | exact H.lim6 (by omega) | exact H.lim7 (by omega) | exact H.lim8 (by omega) | (have := H.most; omega)) rfl ?_
      first | refine draw_light rfl rfl (op_moveI rfl ⟨rfl, ?_⟩) | refine draw_light rfl rfl (op_move ⟨rfl, ?_⟩)
      refine dr_loadN rfl rfl sh36 rfl (by first | exact H.own0 | exact H.own1 | exact H.own2 | exact H.own3 | exact H.own4 | exact H.own5 | exact H.own6 | exact H.own7 | exact H.own8 | exact H.ownA | assumption) (by first | exact H.lim0 (by omega) | exact H.lim1 (by omega) | exact H.lim2 (by omega) | exact H.lim3 (by omega) | exact H.lim4 (by omega) | exact H.lim5 (by omega) | exact H.lim6 (by omega) | exact H.lim7 (by omega) | exact H.lim8 (by omega) | (have := H.most; omega)) rfl ?_
      first | refine draw_light rfl rfl (op_assignS rfl ⟨rfl, ?_⟩) | refine draw_light rfl rfl (op_assign ⟨rfl, ?_⟩)
      first | refine draw_light rfl rfl (op_assignI rfl ⟨rfl, ?_⟩) | refine draw_light rfl rfl (op_assign ⟨rfl, ?_⟩)
      first | refine dr_store0 (vs := [.slice _ _ _, .slice _ _ _]) (fr := []) H rfl rfl sz36 rfl rfl rfl rfl rfl rfl (by have hd := H.dist; simp only [List.pairwise_cons, List.mem_cons, List.not_mem_nil, or_false, forall_eq_or_imp, forall_eq, false_imp_iff, implies_true] at hd ⊢; try omega) (by omega) (fun s6 H => ?_) | refine dr_store1 (vs := [.slice _ _ _, .slice _ _ _]) (fr := []) H rfl rfl sz36 rfl rfl rfl rfl rfl rfl (by have hd := H.dist; simp only [List.pairwise_cons, List.mem_cons, List.not_mem_nil, or_false, forall_eq_or_imp, forall_eq, false_imp_iff, implies_true] at hd ⊢; try omega) (by omega) (fun s6 H => ?_) | refine dr_store2 (vs := [.slice _ _ _, .slice _ _ _]) (fr := []) H rfl rfl sz36 rfl rfl rfl rfl rfl rfl (by have hd := H.dist; simp only [List.pairwise_cons, List.mem_cons, List.not_mem_nil, or_false, forall_eq_or_imp, forall_eq, false_imp_iff, implies_true] at hd ⊢; try omega) (by omega) (fun s6 H => ?_) | refine dr_store3 (vs := [.slice _ _ _, .slice _ _ _]) (fr := []) H rfl rfl sz36 rfl rfl rfl rfl rfl rfl (by have hd := H.dist; simp only [List.pairwise_cons, List.mem_cons, List.not_mem_nil, or_false, forall_eq_or_imp, forall_eq, false_imp_iff, implies_true] at hd ⊢; try omega) (by omega) (fun s6 H => ?_) | refine dr_store4 (vs := [.slice _ _ _, .slice _ _ _]) (fr := []) H rfl rfl sz36 rfl rfl rfl rfl rfl rfl (by have hd := H.dist; simp only [List.pairwise_cons, List.mem_cons, List.not_mem_nil, or_false, forall_eq_or_imp, forall_eq, false_imp_iff, implies_true] at hd ⊢; try omega) (by omega) (fun s6 H => ?_) | refine dr_store5 (vs := [.slice _ _ _, .slice _ _ _]) (fr := []) H rfl rfl sz36 rfl rfl rfl rfl rfl rfl (by have hd := H.dist; simp only [List.pairwise_cons, List.mem_cons, List.not_mem_nil, or_false, forall_eq_or_imp, forall_eq, false_imp_iff, implies_true] at hd ⊢; try omega) (by omega) (fun s6 H => ?_)
      refine draw_light rfl rfl (op_assignC ⟨rfl, ?_⟩)
      refine draw_nil ?_
      refine cw_ret ?_
      refine ret_end ?_
      refine end_ttct rfl rfl sh36 rfl (by first | exact H.own0 | exact H.own1 | exact H.own2 | exact H.own3 | exact H.own4 | exact H.own5 | exact H.own6 | exact H.own7 | exact H.own8) rfl rfl ?_
      refine ⟨_, so3, ⟨_, _, _⟩, ⟨_, _, _⟩, rfl, H.up (by omega), ?_⟩
      refine (Own.slG (es := (tk js bad may (w.toNat + 1) w).map Sp.cells) (by intro x hx; obtain ⟨y, _, rfl⟩ := List.mem_map.mp hx; rfl) (by rw [List.length_map]; rw [List.nil_append] at ho3; exact ho3)).mono ?_
      intro p hp
      simp only [List.mem_cons, List.mem_append, hp, true_or, or_true]
  · exact ⟨_, 0, [], ⟨none, 0, 0⟩, [], slots ⟨rfl, rfl, rfl, rfl, rfl, rfl, rfl, rfl, trivial⟩, H, .nil, rfl, by omega, by omega⟩

end Go.Proofs.YtdejleegamcioaaGreat
namespace Go.Proofs.YtdejleegamcioaaGreat
open Go Go.M

/-- The keys of a map whose entries stand in the order in which they came. -/
def keysL : List MapEntry → Nat → Option (List Int)
  | [], _ => some []
  | e :: l, i => match e.key with
    | .int .i64 k => match Nat.beq e.born i, keysL l (i + 1) with
      | true, some r => some (k :: r)
      | _, _ => none
    | _ => none
def insI (x : Int) : List Int → List Int
  | [] => [x]
  | y :: l => match ile x y with
    | true => x :: y :: l
    | false => y :: insI x l
def isort : List Int → List Int
  | [] => []
  | x :: l => insI x (isort l)
/-- The state behind the loop that collects the keys, and the sort. -/
def segS (v13 v16 : Value) (s : St) : Option St :=
  match v13, v16 with
  | .pointer (some ⟨bK, 0, none⟩), .pointer (some ⟨b16, 0, none⟩) =>
    match s.get bK, s.get b16 with
    | some (.cells [.map (some r)] _), some (.cells [.slice none 0 0, v2] 36) =>
      match s.get r with
      | some (.map es clock) => match keysL es.toList 0, Nat.beq clock es.size && s.may b16 && Nat.blt (s.next + 2 * es.size) 281474976710655 && Nat.blt 0 es.size && Nat.blt es.size 1000000 && Go.M.plainCell v2 with
        | some ks, true => some (({ s with next := s.next + 2 * es.size }.new (.cells (ints (isort ks)) 23)).put b16 (some (.cells [.slice (some ⟨s.next + 2 * es.size, 0, none⟩) es.size (2 * es.size + 1), v2] 36)))
        | _, _ => none
      | _ => none
    | _, _ => none
  | _, _ => none
def noTable : Table := fun _ => none
noncomputable def leastN (n : Nat) (args : Array Value) (s : St) : CallOut :=
  match Nat.beq (llen args.toList 0) 4 with
  | true => match codeM Tryz.prog noTable n leastPre (Fr.make args 78) s with
    | .ret a s' => finish Tryz.prog Tryz.f12 a s'
    | .normal a s1 => match segS (a.get 13) (a.get 16) s1 with
      | some s2 => match codeM Tryz.prog noTable n leastTail a s2 with
        | .ret a s' => finish Tryz.prog Tryz.f12 a s'
        | .normal a s' => finish Tryz.prog Tryz.f12 a s'
        | _ => .stuck
      | none => .stuck
    | _ => .stuck
  | false => .stuck
def Ever (args : Array Value) (s : St) (v : Value) (s' : St) : Prop := ∃ N, ∀ n, N ≤ n → leastN n args s = .ret v s'
theorem ever_one {args : Array Value} {s : St} {v v2 : Value} {s1 s2 : St} (h1 : Ever args s v s1) (h2 : Ever args s v2 s2) : v = v2 ∧ s1 = s2 := by
  obtain ⟨n1, h1⟩ := h1
  obtain ⟨n2, h2⟩ := h2
  have := (h1 (n1 + n2) (by omega)).symm.trans (h2 (n1 + n2) (by omega))
  simp only [CallOut.ret.injEq] at this
  exact this
open Classical in
noncomputable def leastI (args : Array Value) (s : St) : CallOut :=
  if h : ∃ p : Value × St, Ever args s p.1 p.2 then .ret h.choose.1 h.choose.2 else .stuck
theorem leastI_eq {args : Array Value} {s : St} {v : Value} {s' : St} (h : Ever args s v s') : leastI args s = .ret v s' := by
  have hx : ∃ p : Value × St, Ever args s p.1 p.2 := ⟨(v, s'), h⟩
  unfold leastI
  rw [dif_pos hx]
  obtain ⟨e1, e2⟩ := ever_one hx.choose_spec h
  rw [e1, e2]

theorem plain_none : Plain noTable := fun _ _ _ => rfl
theorem preN : codeN 78 leastPre = true := by kernel_rfl
theorem tailN : codeN 78 leastTail = true := by kernel_rfl
theorem resN : Tryz.f12.results.toList.all (resultB 78) = true := by kernel_rfl

theorem keys_ents : ∀ (E : List Ent) (i : Nat), keysL (ents i E) i = some (keysE E)
  | [], _ => rfl
  | e :: E, i => by simp only [ents, keysL, keys_ents E (i + 1), Nat.beq_refl]; rfl
theorem insI_perm (x : Int) : ∀ l, (insI x l).Perm (x :: l)
  | [] => .refl _
  | y :: l => by
    simp only [insI]
    split
    · exact .refl _
    · exact (List.Perm.cons y (insI_perm x l)).trans (List.Perm.swap _ _ _)
theorem isort_perm : ∀ l, (isort l).Perm l
  | [] => .refl _
  | x :: l => (insI_perm x (isort l)).trans ((isort_perm l).cons x)
theorem ents_len : ∀ (E : List Ent) (i : Nat), (ents i E).length = E.length
  | [], _ => rfl
  | e :: E, i => by simp only [ents, List.length_cons, ents_len E (i + 1)]

theorem _root_.Go.M.HL.skip {W : List Nat} {s0 s : St} {L : Hp'} {n : Nat} (H : HL W s0 s L n) (k : Nat) : HL W s0 { s with next := s.next + k } L (n + k) :=
  ⟨H.bar, H.prot, H.wfb, H.wfp, by have := H.le; simp only; omega, by have := H.most; simp only; omega, fun p hp => by
    obtain ⟨h1, h2, h3, h4⟩ := H.own p hp
    exact ⟨h1, by simp only; omega, h3, h4⟩, H.dist, H.kept⟩
theorem seg_ok {s s1 : St} {b16 bK r b10 n0 : Nat} {E : List Ent} (H : HL [] s s1 [(b16, .cells [.slice none 0 0, .slice none 0 0] 36), (bK, .cells [.map (some r)] 96), (r, mapO E), (b10, .cells [.slice none 0 0, .slice none 0 0] 36)] n0) (hE : 0 < E.length) (hE2 : E.length < 1000000) (hr : s.next + (n0 + 2 * E.length + 1) ≤ limit) :
    ∃ s2 bS, segS (ptr bK) (ptr b16) s1 = some s2 ∧ HL [] s s2 [(b16, .cells [.slice (some ⟨bS, 0, none⟩) (isort (keysE E)).length (2 * E.length + 1), .slice none 0 0] 36), (bS, .cells (ints (isort (keysE E))) 23), (bK, .cells [.map (some r)] 96), (r, mapO E), (b10, .cells [.slice none 0 0, .slice none 0 0] 36)] (n0 + 2 * E.length + 1) := by
  have hm := H.most
  have hmay : s1.may b16 = true := (H.own (b16, .cells [.slice none 0 0, .slice none 0 0] 36) (by simp)).2.2.1
  have hlen : (isort (keysE E)).length = E.length := by rw [(isort_perm _).length_eq]; simp [keysE]
  have hg := (Nat.blt_eq.mpr (show s1.next + 2 * E.length < 281474976710655 by unfold limit at hr; omega))
  have h1 : Nat.blt 0 E.length = true := Nat.blt_eq.mpr hE
  have h2 : Nat.blt E.length 1000000 = true := Nat.blt_eq.mpr hE2
  have hsz : (⟨ents 0 E⟩ : Array MapEntry).size = E.length := ents_len E 0
  refine ⟨(({ s1 with next := s1.next + 2 * E.length }).new (.cells (ints (isort (keysE E))) 23)).put b16 (some (.cells [.slice (some ⟨s1.next + 2 * E.length, 0, none⟩) (isort (keysE E)).length (2 * E.length + 1), .slice none 0 0] 36)), s1.next + 2 * E.length, ?_, ?_⟩
  rotate_left
  · have H2 := (H.skip (2 * E.length)).new (.cells (ints (isort (keysE E))) 23) (by unfold limit at *; omega)
    have H3 := H2.put1 (.cells [.slice (some ⟨s1.next + 2 * E.length, 0, none⟩) (isort (keysE E)).length (2 * E.length + 1), .slice none 0 0] 36) (by omega)
    exact HL.perm H3 (List.Perm.swap _ _ _)
  · simp only [segS, H.own0, H.own1, H.own2, mapO, keys_ents, hsz, hmay, hg, h1, h2, hlen, Nat.beq_refl, Bool.and_self, Go.M.plainCell]
end Go.Proofs.YtdejleegamcioaaGreat
namespace Go.Proofs.YtdejleegamcioaaGreat
open Go Go.M

theorem finish_of {F : FF} {a : Fr} {s : St} {Post : Value → St → Prop} (ha : Agrees 78 F a) (h : endQ Tryz.prog Tryz.f12.results.toList Post F s) : ∃ v, finish Tryz.prog Tryz.f12 a s = .ret v s ∧ Post v s ∧ ∀ a2, Agrees 78 F a2 → finish Tryz.prog Tryz.f12 a2 s = .ret v s := by
  have key : ∃ v, Post v s ∧ ∀ a2, Agrees 78 F a2 → finish Tryz.prog Tryz.f12 a2 s = .ret v s := by
    unfold endQ at h
    split at h
    · next v hv => exact ⟨v, h, fun a ha => by unfold finish; rw [results_sim ha _ resN, hv]⟩
    · next l hl hv =>
      refine ⟨_, h, fun a ha => ?_⟩
      unfold finish
      rw [results_sim ha _ resN, hv]
      cases l with
      | nil => rfl
      | cons x l => cases l with
        | nil => exact (hl x rfl).elim
        | cons y l => rfl
    · exact h.elim
  obtain ⟨v, h1, h2⟩ := key
  exact ⟨v, h2 a ha, h1, h2⟩

theorem least_pre {args : Array Value} (h4 : args.toList.length = 4) (s : St) (n : Nat) : SimOut 78 (codeF Tryz.prog noTable n leastPre (frameOf args) s) (codeM Tryz.prog noTable n leastPre (Fr.make args 78) s) :=
  code_sim n leastPre _ _ s preN (agrees_make (by omega) (by decide))

theorem room_help {a b c d k o : Nat} (h1 : a + 20000000000 ≤ d) (h2 : b ≤ 1200000000) (h3 : c ≤ 65535) (hk : k ≤ 400000) (ho : o ≤ 1) : a + (b + 2 * c + o + 2 * c + k) ≤ d := by omega
theorem room_help2 {b c k o : Nat} (h2 : b ≤ 1200000000) (h3 : c ≤ 65535) (hk : k ≤ 400000) (ho : o ≤ 1) : b + 2 * c + o + 2 * c + k ≤ 20000000000 := by omega
set_option maxHeartbeats 4000000 in
set_option maxRecDepth 10000 in
theorem leastC {I : Table} (hI : I 12 = some leastI) : LeastC I := by
  intro s w bad vj vm js may hf hJ hM hj hjl hm hml hw0 hw1 hb0 hb1 hroom
  have htb := tb_small hm hml (w.toNat + 1) w
  have hrg := bb_range (js := js) (bad := bad) (may := may) w
  obtain ⟨o, hq, n1, hn1⟩ := pre_ok plain_none hf hJ hM hj hjl hm hml hw0 hw1 hb0 hb1 (by omega)
  have hsim := least_pre (args := #[.int .i64 w, vj, .int .i64 bad, vm]) rfl s
  have hret : ∀ v s', Ever #[.int .i64 w, vj, .int .i64 bad, vm] s v s' → Rets Tryz.prog I 12 #[.int .i64 w, vj, .int .i64 bad, vm] s v s' := fun v s' h => ⟨0, fun m _ => by
    simp only [callM, callWith, hI]
    exact leastI_eq h⟩
  cases o with
  | exit i F s' => exact hq.elim
  | stuck => exact hq.elim
  | ret F s' =>
    obtain ⟨h1, b10, e8, e9, e10, e11, H⟩ := hq
    have he : endQ Tryz.prog Tryz.f12.results.toList (fun v s2 => v = .tuple ⟨[.slice none 0 0, .int .i64 0, .agg ⟨[.slice none 0 0, .slice none 0 0]⟩, .int .i64 6]⟩ ∧ s2 = s') F s' :=
      end_ttct e8 e9 sh36 e10 H.own0 rfl e11 ⟨rfl, rfl⟩
    refine ⟨_, s', hret _ s' ⟨n1, fun n hn => ?_⟩, .inl ⟨h1, rfl, H.drop0.up (by omega)⟩⟩
    have h0 := hsim n
    rw [hn1 n hn] at h0
    cases hm2 : codeM Tryz.prog noTable n leastPre (Fr.make #[.int .i64 w, vj, .int .i64 bad, vm] 78) s with
    | ret a s2 =>
      rw [hm2] at h0
      obtain ⟨rfl, ha⟩ := h0
      obtain ⟨v, hv, ⟨rfl, _⟩, _⟩ := finish_of ha he
      simp only [leastN, hm2]
      exact hv
    | _ => rw [hm2] at h0; exact h0.elim
  | normal F s1 =>
    obtain ⟨h1, G, b10, bK, b16, r, E, rfl, hg, hk, hEl, H⟩ := hq
    have hE : 0 < E.length := by
      cases E with
      | nil => simp [keysE] at hk
      | cons a b => simp
    obtain ⟨N, hN⟩ : ∃ N, N = 10020 + tb may (w.toNat + 1) w := ⟨_, rfl⟩
    rw [← hN] at H
    have hNb : N ≤ 1200000000 := by omega
    clear hN htb
    obtain ⟨s2, bS, hseg, H2⟩ := seg_ok H hE (by omega) (by omega)
    have hlen : (isort (keysE E)).length = E.length := by rw [(isort_perm _).length_eq]; simp [keysE]
    have hk7 : (isort (keysE E)).length ≤ 10000000 := by rw [hlen]; omega
    have hroom2 : s.next + (N + 2 * E.length + 1 + 2 * (isort (keysE E)).length + 400000) ≤ limit := by
      rw [hlen]
      exact room_help hroom hNb hEl (Nat.le_refl _) (Nat.le_refl _)
    obtain ⟨o2, hq2, n2, hn2⟩ := tail_ok (I := noTable) (G := G) (ks := isort (keysE E)) (n0 := N + 2 * E.length + 1) (cS := 2 * E.length + 1) plain_none hm hw0 hw1 h1 hg hk (fun x hx => (isort_perm _).mem_iff.mp hx) hk7 H2 hroom2
    have hpre : ∀ n, n1 + n2 ≤ n → ∃ a, codeM Tryz.prog noTable n leastPre (Fr.make #[.int .i64 w, vj, .int .i64 bad, vm] 78) s = .normal a s1 ∧ Agrees 78 (lay G [(0, .int .i64 w), (10, ptr b10), (13, ptr bK), (15, .int .i64 (bb js bad may w).1), (16, ptr b16)]) a ∧ segS (a.get 13) (a.get 16) s1 = some s2 := by
      intro n hn
      have h0 := hsim n
      rw [hn1 n (by omega)] at h0
      cases hm2 : codeM Tryz.prog noTable n leastPre (Fr.make #[.int .i64 w, vj, .int .i64 bad, vm] 78) s with
      | normal a s3 =>
        rw [hm2] at h0
        obtain ⟨rfl, ha⟩ := h0
        refine ⟨a, rfl, ha, ?_⟩
        rw [ha.get 13 (by decide), ha.get 16 (by decide)]
        exact hseg
      | _ => rw [hm2] at h0; exact h0.elim
    have hend : ∀ (F3 : FF) (s' : St), (∀ n, n2 ≤ n → codeF Tryz.prog noTable n leastTail (lay G [(0, .int .i64 w), (10, ptr b10), (13, ptr bK), (15, .int .i64 (bb js bad may w).1), (16, ptr b16)]) s2 = .ret F3 s') ∨ (∀ n, n2 ≤ n → codeF Tryz.prog noTable n leastTail (lay G [(0, .int .i64 w), (10, ptr b10), (13, ptr bK), (15, .int .i64 (bb js bad may w).1), (16, ptr b16)]) s2 = .normal F3 s') →
        endQ Tryz.prog Tryz.f12.results.toList (fun v' s' => ∃ (D : Hp') (sx p1 p2 : Slc), v' = .tuple ⟨[sx.v, .int .i64 (bb js bad may w).1, .agg ⟨[p1.v, p2.v]⟩, .int .i64 0]⟩ ∧ HL [] s s' D (N + 2 * E.length + 1 + 2 * (isort (keysE E)).length + 400000) ∧ SlG D 62 10 sx.v ((tk js bad may (w.toNat + 1) w).map Sp.cells)) F3 s' →
        ∃ v' s', Rets Tryz.prog I 12 #[.int .i64 w, vj, .int .i64 bad, vm] s v' s' ∧
          (((bb js bad may w).1 = 65536 ∧ v' = .tuple ⟨[.slice none 0 0, .int .i64 0, .agg ⟨[.slice none 0 0, .slice none 0 0]⟩, .int .i64 6]⟩ ∧ HL [] s s' [] 20000000000) ∨
           ((bb js bad may w).1 < 65536 ∧ ∃ (D : Hp') (sx p1 p2 : Slc), v' = .tuple ⟨[sx.v, .int .i64 (bb js bad may w).1, .agg ⟨[p1.v, p2.v]⟩, .int .i64 0]⟩ ∧ HL [] s s' D 20000000000 ∧ SlG D 62 10 sx.v ((tk js bad may (w.toNat + 1) w).map Sp.cells))) := by
      intro F3 s' hrun he
      -- the frame at one great fuel
      obtain ⟨a, hpa, hag, hsg⟩ := hpre (n1 + n2) (Nat.le_refl _)
      have htail : ∀ n, n2 ≤ n → ∀ a, Agrees 78 (lay G [(0, .int .i64 w), (10, ptr b10), (13, ptr bK), (15, .int .i64 (bb js bad may w).1), (16, ptr b16)]) a → ∃ a3, Agrees 78 F3 a3 ∧ (codeM Tryz.prog noTable n leastTail a s2 = .ret a3 s' ∨ codeM Tryz.prog noTable n leastTail a s2 = .normal a3 s') := by
        intro n hn a ha
        have h0 := code_sim (P := Tryz.prog) (I := noTable) n leastTail _ a s2 tailN ha
        rcases hrun with hrun | hrun
        · rw [hrun n hn] at h0
          cases hm3 : codeM Tryz.prog noTable n leastTail a s2 with
          | ret a3 s3 =>
            rw [hm3] at h0
            obtain ⟨rfl, ha3⟩ := h0
            exact ⟨a3, ha3, .inl rfl⟩
          | _ => rw [hm3] at h0; exact h0.elim
        · rw [hrun n hn] at h0
          cases hm3 : codeM Tryz.prog noTable n leastTail a s2 with
          | normal a3 s3 =>
            rw [hm3] at h0
            obtain ⟨rfl, ha3⟩ := h0
            exact ⟨a3, ha3, .inr rfl⟩
          | _ => rw [hm3] at h0; exact h0.elim
      obtain ⟨a3, ha3, _⟩ := htail (n1 + n2) (by omega) a hag
      obtain ⟨v, _, ⟨D, sx, p1, p2, hv, HD, hG⟩, hall⟩ := finish_of ha3 he
      refine ⟨v, s', hret v s' ⟨n1 + n2, fun n hn => ?_⟩, .inr ⟨h1, D, sx, p1, p2, hv, HD.up (by rw [hlen]; exact room_help2 hNb hEl (Nat.le_refl _) (Nat.le_refl _)), hG⟩⟩
      obtain ⟨a4, hp4, hag4, hsg4⟩ := hpre n hn
      obtain ⟨a5, ha5, h5⟩ := htail n (by omega) a4 hag4
      rcases h5 with h5 | h5
      · simp only [leastN, hp4, hsg4, h5]
        exact hall a5 ha5
      · simp only [leastN, hp4, hsg4, h5]
        exact hall a5 ha5
    cases o2 with
    | exit i F s' => exact hq2.elim
    | stuck => exact hq2.elim
    | normal F3 s' => exact hend F3 s' (.inr hn2) hq2
    | ret F3 s' => exact hend F3 s' (.inl hn2) hq2
end Go.Proofs.YtdejleegamcioaaGreat
namespace Go.M
section
variable (Z : Nat → Bool)
def EqOff (F F' : FF) : Prop := ∀ t, Z t = false → F t = F' t
def okZ : Operand → Bool
  | .tmp t => !Z t
  | _ => true
def guardZ (ops : List Oper) (o : Oper) : Bool :=
  match o.guard with
  | none => true
  | some (j, _) => match lget ops j with
    | some q => match q.dst with
      | some d => !Z d
      | none => true
    | none => true
def opsZ (ops : List Oper) : Bool := ops.all fun o => o.op.operands.toList.all (okZ Z) && guardZ Z ops o
def codeZ : Code → Bool
  | .region _ ops _ => opsZ Z ops.toList
  | .seq a b => codeZ a && codeZ b
  | .cond c a b => okZ Z c && codeZ a && codeZ b
  | .block _ b => codeZ b
  | .loop b => codeZ b
  | _ => true
def SimZ : FOut → FOut → Prop
  | .normal F s, .normal F' s' => s' = s ∧ EqOff Z F F'
  | .exit id F s, .exit id' F' s' => id' = id ∧ s' = s ∧ EqOff Z F F'
  | .ret F s, .ret F' s' => s' = s ∧ EqOff Z F F'
  | .stuck, .stuck => True
  | _, _ => False
variable {Z} {P : Program} {call : FuncId → Array Value → St → CallOut}
theorem EqOff.upd {F F' : FF} (h : EqOff Z F F') (d : Option Nat) (v : Value) : EqOff Z (upd F d v) (upd F' d v) := fun t ht => by
  cases d with
  | none => exact h t ht
  | some d => rw [upd_eq, upd_eq, h t ht]
theorem EqOff.eval {F F' : FF} (h : EqOff Z F F') {x : Operand} (hx : okZ Z x = true) : evalF F x = evalF F' x := by
  cases x with
  | tmp t => exact h t (by simpa [okZ] using hx)
  | _ => rfl
theorem wanted_z {ops : List Oper} {F F' : FF} {o : Oper} (h : EqOff Z F F') (hg : guardZ Z ops o = true) : wantedF ops F o = wantedF ops F' o := by
  unfold wantedF
  unfold guardZ at hg
  cases hgu : o.guard with
  | none => rfl
  | some g =>
    rw [hgu] at hg
    simp only at hg ⊢
    cases hq : lget ops g.1 with
    | none => rfl
    | some q =>
      rw [hq] at hg
      simp only at hg ⊢
      cases hd : q.dst with
      | none => rfl
      | some d =>
        rw [hd] at hg
        simp only at hg ⊢
        rw [h d (by simpa using hg)]
theorem op_z {F F' : FF} {o : Oper} {s : St} (h : EqOff Z F F') (ho : o.op.operands.toList.all (okZ Z) = true) : SimZ Z (opF P call o F s) (opF P call o F' s) := by
  have e : stepM P (evalF F) o.op s = stepM P (evalF F') o.op s := stepM_congr o.op fun x hx => h.eval (by rw [List.all_eq_true] at ho; exact ho x hx)
  unfold opF
  rw [e]
  cases stepM P (evalF F') o.op s with
  | stuck => trivial
  | panic v s => trivial
  | ok n s =>
    cases n with
    | value v => exact ⟨rfl, h.upd _ _⟩
    | skip => exact ⟨rfl, h.upd _ _⟩
    | enter f args =>
      simp only
      cases call f args s with
      | ret v s => exact ⟨rfl, h.upd _ _⟩
      | panic c s => trivial
      | stuck => trivial
    | _ => trivial
theorem ops_z (ops : List Oper) : ∀ (l : List Oper) (F F' : FF) (s : St), (l.all fun o => o.op.operands.toList.all (okZ Z) && guardZ Z ops o) = true → EqOff Z F F' → SimZ Z (opsF P call ops l F s) (opsF P call ops l F' s)
  | [], F, F', s, _, h => ⟨rfl, h⟩
  | o :: l, F, F', s, hl, h => by
    simp only [List.all_cons, Bool.and_eq_true] at hl
    have hl2 : (l.all fun o => o.op.operands.toList.all (okZ Z) && guardZ Z ops o) = true := by simpa using hl.2
    simp only [opsF]
    rw [wanted_z h hl.1.2]
    cases wantedF ops F' o with
    | false => exact ops_z ops l _ _ s hl2 (h.upd _ _)
    | true =>
      have h1 := op_z (P := P) (call := call) (s := s) h hl.1.1
      simp only
      cases hf : opF P call o F s <;> cases hm : opF P call o F' s <;> rw [hf, hm] at h1 <;> first | exact h1.elim | trivial | skip
      obtain ⟨rfl, h2⟩ := h1
      exact ops_z ops l _ _ _ hl2 h2
theorem block_z {F F' : FF} {o : Oper} (h : EqOff Z F F') (ho : o.op.operands.toList.all (okZ Z) = true) : blockOfF F o = blockOfF F' o := by
  unfold blockOfF
  cases hop : o.op with
  | load t x =>
    simp only
    rw [h.eval (by rw [List.all_eq_true] at ho; exact ho x (by rw [hop]; simp [Op.operands]))]
  | _ => rfl
theorem blocks_z {ops : List Oper} {F F' : FF} (h : EqOff Z F F') (ho : ∀ o ∈ ops, o.op.operands.toList.all (okZ Z) = true) : ∀ l, blocksOfF ops F l = blocksOfF ops F' l
  | [] => rfl
  | i :: l => by
    simp only [blocksOfF]
    cases hg : lget ops i with
    | none => exact blocks_z h ho l
    | some o =>
      simp only
      rw [block_z h (ho o (by rw [lget_eq] at hg; exact List.mem_of_getElem? hg)), blocks_z h ho l]
theorem drawOp_z {ops : List Oper} (ho : ∀ o ∈ ops, o.op.operands.toList.all (okZ Z) = true ∧ guardZ Z ops o = true) {d : Drawn} {o : Oper} (hmem : o ∈ ops) {F F' : FF} {s : St} (h : EqOff Z F F') :
    SimZ Z (drawOpF P call ops d o F s) (drawOpF P call ops d o F' s) := by
  unfold drawOpF
  rw [wanted_z h (ho o hmem).2]
  cases wantedF ops F' o with
  | false => exact ⟨rfl, h.upd _ _⟩
  | true =>
    simp only
    cases d.how with
    | light =>
      simp only
      rw [block_z h (ho o hmem).1]
      have h1 := op_z (P := P) (call := call) (s := { next := s.next, bar := s.next, prot := [], heap := only s (blockOfF F' o) }) h (ho o hmem).1
      cases hf : opF P call o F { next := s.next, bar := s.next, prot := [], heap := only s (blockOfF F' o) } <;> cases hm : opF P call o F' { next := s.next, bar := s.next, prot := [], heap := only s (blockOfF F' o) } <;> rw [hf, hm] at h1 <;> first | exact h1.elim | trivial | skip
      obtain ⟨rfl, h2⟩ := h1
      simp only
      split
      · exact ⟨rfl, h2⟩
      · trivial
    | whole =>
      simp only
      rw [blocks_z h (fun o hm => (ho o hm).1)]
      have h1 := op_z (P := P) (call := call) (s := { s with prot := blocksOfF ops F' d.free ++ s.prot }) h (ho o hmem).1
      cases hf : opF P call o F { s with prot := blocksOfF ops F' d.free ++ s.prot } <;> cases hm : opF P call o F' { s with prot := blocksOfF ops F' d.free ++ s.prot } <;> rw [hf, hm] at h1 <;> first | exact h1.elim | trivial | skip
      obtain ⟨rfl, h2⟩ := h1
      exact ⟨rfl, h2⟩
    | fresh =>
      simp only
      have h1 := op_z (P := P) (call := call) (s := { s with bar := s.next }) h (ho o hmem).1
      cases hf : opF P call o F { s with bar := s.next } <;> cases hm : opF P call o F' { s with bar := s.next } <;> rw [hf, hm] at h1 <;> first | exact h1.elim | trivial | skip
      obtain ⟨rfl, h2⟩ := h1
      exact ⟨rfl, h2⟩
theorem draw_z {ops : List Oper} (ho : ∀ o ∈ ops, o.op.operands.toList.all (okZ Z) = true ∧ guardZ Z ops o = true) : ∀ (l : List Drawn) (F F' : FF) (s : St), EqOff Z F F' → SimZ Z (drawF P call ops l F s) (drawF P call ops l F' s)
  | [], F, F', s, h => ⟨rfl, h⟩
  | d :: l, F, F', s, h => by
    simp only [drawF]
    cases hg : lget ops d.ix with
    | none => trivial
    | some o =>
      simp only
      have h1 := drawOp_z (P := P) (call := call) ho (d := d) (o := o) (by rw [lget_eq] at hg; exact List.mem_of_getElem? hg) (s := s) h
      cases hf : drawOpF P call ops d o F s <;> cases hm : drawOpF P call ops d o F' s <;> rw [hf, hm] at h1 <;> first | exact h1.elim | trivial | skip
      obtain ⟨rfl, h2⟩ := h1
      exact draw_z ho l _ _ _ h2
theorem code_z {I : Table} : ∀ (n : Nat) (c : Code) (F F' : FF) (s : St), codeZ Z c = true → EqOff Z F F' → SimZ Z (codeF P I n c F s) (codeF P I n c F' s)
  | 0, _, _, _, _, _, _ => trivial
  | n + 1, c, F, F', s, hc, h => by
    cases c with
    | skip => exact ⟨rfl, h⟩
    | label _ => exact ⟨rfl, h⟩
    | exit id => exact ⟨rfl, rfl, h⟩
    | ret => exact ⟨rfl, h⟩
    | seq x y =>
      simp only [codeZ, Bool.and_eq_true] at hc
      have h1 := code_z (I := I) n x F F' s hc.1 h
      simp only [codeF]
      cases hf : codeF P I n x F s <;> cases hm : codeF P I n x F' s <;> rw [hf, hm] at h1 <;> first | exact h1.elim | exact h1 | skip
      obtain ⟨rfl, h2⟩ := h1
      exact code_z n y _ _ _ hc.2 h2
    | cond x y z =>
      simp only [codeZ, Bool.and_eq_true] at hc
      simp only [codeF]
      rw [h.eval hc.1.1]
      cases evalF F' x with
      | bool b => cases b with
        | true => exact code_z n y F F' s hc.1.2 h
        | false => exact code_z n z F F' s hc.2 h
      | _ => trivial
    | block id b =>
      simp only [codeZ] at hc
      have h1 := code_z (I := I) n b F F' s hc h
      simp only [codeF]
      cases hf : codeF P I n b F s <;> cases hm : codeF P I n b F' s <;> rw [hf, hm] at h1 <;> first | exact h1.elim | exact h1 | skip
      obtain ⟨rfl, rfl, h2⟩ := h1
      simp only
      split
      · exact ⟨rfl, h2⟩
      · exact ⟨rfl, rfl, h2⟩
    | loop b =>
      simp only [codeZ] at hc
      have h1 := code_z (I := I) n b F F' s hc h
      simp only [codeF]
      cases hf : codeF P I n b F s <;> cases hm : codeF P I n b F' s <;> rw [hf, hm] at h1 <;> first | exact h1.elim | exact h1 | skip
      obtain ⟨rfl, h2⟩ := h1
      exact code_z n (.loop b) _ _ _ (by simpa only [codeZ] using hc) h2
    | region id ops draw =>
      simp only [codeZ] at hc
      simp only [codeF]
      cases draw with
      | false => exact ops_z ops.toList ops.toList F F' s hc h
      | true =>
        simp only
        cases planB ops.toList (plan ops.toList) with
        | false => trivial
        | true =>
          refine draw_z (fun o ho => ?_) _ F F' s h
          unfold opsZ at hc
          rw [List.all_eq_true] at hc
          simpa using hc o ho
    | _ => trivial
end
end Go.M
namespace Go.M
section
variable (Z : Nat → Bool) (N : Nat)
structure MOff (F F' : Fr) : Prop where
  one : F.size = N
  two : F'.size = N
  small : N ≤ 65534
  get : ∀ t, Z t = false → F.get t = F'.get t
def SimM : Out → Out → Prop
  | .normal F s, .normal F' s' => s' = s ∧ MOff Z N F F'
  | .exit id F s, .exit id' F' s' => id' = id ∧ s' = s ∧ MOff Z N F F'
  | .ret F s, .ret F' s' => s' = s ∧ MOff Z N F F'
  | .panic _ _ _, .panic _ _ _ => True
  | .stuck, .stuck => True
  | _, _ => False
variable {Z} {N} {P : Program} {call : FuncId → Array Value → St → CallOut}
theorem MOff.put {F F' : Fr} (h : MOff Z N F F') (d : Option Nat) (v : Value) : MOff Z N (F.put d v) (F'.put d v) := by
  have hsz : F.size = F'.size := h.one.trans h.two.symm
  have hsm : F.size ≤ 65534 := by rw [h.one]; exact h.small
  refine ⟨by rw [Fr.put_size]; exact h.one, by rw [Fr.put_size]; exact h.two, h.small, fun t ht => ?_⟩
  cases d with
  | none => exact h.get t ht
  | some d =>
    by_cases hd : d < F.size
    · rw [Fr.get_put' hsm hd, Fr.get_put' (by rw [← hsz]; exact hsm) (by rw [← hsz]; exact hd), h.get t ht]
    · have e1 : Nat.blt d F.size = false := by
        rw [Bool.eq_false_iff, Ne, Nat.blt_eq]; exact hd
      have e2 : Nat.blt d F'.size = false := by rw [← hsz]; exact e1
      simp only [Fr.put, e1, e2]
      exact h.get t ht
theorem MOff.eval {F F' : Fr} (h : MOff Z N F F') {x : Operand} (hx : okZ Z x = true) : F.eval x = F'.eval x := by
  cases x with
  | tmp t => exact h.get t (by simpa [okZ] using hx)
  | _ => rfl
theorem wanted_m {ops : List Oper} {F F' : Fr} {o : Oper} (h : MOff Z N F F') (hg : guardZ Z ops o = true) : wantedM ops F o = wantedM ops F' o := by
  unfold wantedM
  unfold guardZ at hg
  cases hgu : o.guard with
  | none => rfl
  | some g =>
    rw [hgu] at hg
    simp only at hg ⊢
    cases hq : lget ops g.1 with
    | none => rfl
    | some q =>
      rw [hq] at hg
      simp only at hg ⊢
      cases hd : q.dst with
      | none => rfl
      | some d =>
        rw [hd] at hg
        simp only at hg ⊢
        rw [h.get d (by simpa using hg)]
theorem op_m {F F' : Fr} {o : Oper} {s : St} (h : MOff Z N F F') (ho : o.op.operands.toList.all (okZ Z) = true) : SimM Z N (opM P call o F s) (opM P call o F' s) := by
  have e : stepM P F.eval o.op s = stepM P F'.eval o.op s := stepM_congr o.op fun x hx => h.eval (by rw [List.all_eq_true] at ho; exact ho x hx)
  unfold opM
  rw [e]
  cases stepM P F'.eval o.op s with
  | stuck => trivial
  | panic v s => trivial
  | ok n s =>
    cases n with
    | value v => exact ⟨rfl, h.put _ _⟩
    | skip => exact ⟨rfl, h.put _ _⟩
    | enter f args =>
      simp only
      cases call f args s with
      | ret v s => exact ⟨rfl, h.put _ _⟩
      | panic c s => trivial
      | stuck => trivial
    | _ => trivial
theorem ops_m (ops : List Oper) : ∀ (l : List Oper) (F F' : Fr) (s : St), (l.all fun o => o.op.operands.toList.all (okZ Z) && guardZ Z ops o) = true → MOff Z N F F' → SimM Z N (opsM P call ops l F s) (opsM P call ops l F' s)
  | [], F, F', s, _, h => ⟨rfl, h⟩
  | o :: l, F, F', s, hl, h => by
    simp only [List.all_cons, Bool.and_eq_true] at hl
    have hl2 : (l.all fun o => o.op.operands.toList.all (okZ Z) && guardZ Z ops o) = true := by simpa using hl.2
    simp only [opsM]
    rw [wanted_m h hl.1.2]
    cases wantedM ops F' o with
    | false => exact ops_m ops l _ _ s hl2 (h.put _ _)
    | true =>
      have h1 := op_m (P := P) (call := call) (s := s) h hl.1.1
      simp only
      cases hf : opM P call o F s <;> cases hm : opM P call o F' s <;> rw [hf, hm] at h1 <;> first | exact h1.elim | trivial | skip
      obtain ⟨rfl, h2⟩ := h1
      exact ops_m ops l _ _ _ hl2 h2
theorem block_m {F F' : Fr} {o : Oper} (h : MOff Z N F F') (ho : o.op.operands.toList.all (okZ Z) = true) : blockOf F o = blockOf F' o := by
  unfold blockOf
  cases hop : o.op with
  | load t x =>
    simp only
    rw [h.eval (by rw [List.all_eq_true] at ho; exact ho x (by rw [hop]; simp [Op.operands]))]
  | _ => rfl
theorem blocks_m {ops : List Oper} {F F' : Fr} (h : MOff Z N F F') (ho : ∀ o ∈ ops, o.op.operands.toList.all (okZ Z) = true) : ∀ l, blocksOf ops F l = blocksOf ops F' l
  | [] => rfl
  | i :: l => by
    simp only [blocksOf]
    cases hg : lget ops i with
    | none => exact blocks_m h ho l
    | some o =>
      simp only
      rw [block_m h (ho o (by rw [lget_eq] at hg; exact List.mem_of_getElem? hg)), blocks_m h ho l]
theorem drawOp_m {ops : List Oper} (ho : ∀ o ∈ ops, o.op.operands.toList.all (okZ Z) = true ∧ guardZ Z ops o = true) {d : Drawn} {o : Oper} (hmem : o ∈ ops) {F F' : Fr} {s : St} (h : MOff Z N F F') :
    SimM Z N (drawOp P call ops d o F s) (drawOp P call ops d o F' s) := by
  unfold drawOp
  rw [wanted_m h (ho o hmem).2]
  cases wantedM ops F' o with
  | false => exact ⟨rfl, h.put _ _⟩
  | true =>
    simp only
    cases d.how with
    | light =>
      simp only
      rw [block_m h (ho o hmem).1]
      have h1 := op_m (P := P) (call := call) (s := { next := s.next, bar := s.next, prot := [], heap := only s (blockOf F' o) }) h (ho o hmem).1
      cases hf : opM P call o F { next := s.next, bar := s.next, prot := [], heap := only s (blockOf F' o) } <;> cases hm : opM P call o F' { next := s.next, bar := s.next, prot := [], heap := only s (blockOf F' o) } <;> rw [hf, hm] at h1 <;> first | exact h1.elim | trivial | skip
      obtain ⟨rfl, h2⟩ := h1
      simp only
      split
      · exact ⟨rfl, h2⟩
      · trivial
    | whole =>
      simp only
      rw [blocks_m h (fun o hm => (ho o hm).1)]
      have h1 := op_m (P := P) (call := call) (s := { s with prot := blocksOf ops F' d.free ++ s.prot }) h (ho o hmem).1
      cases hf : opM P call o F { s with prot := blocksOf ops F' d.free ++ s.prot } <;> cases hm : opM P call o F' { s with prot := blocksOf ops F' d.free ++ s.prot } <;> rw [hf, hm] at h1 <;> first | exact h1.elim | trivial | skip
      obtain ⟨rfl, h2⟩ := h1
      exact ⟨rfl, h2⟩
    | fresh =>
      simp only
      have h1 := op_m (P := P) (call := call) (s := { s with bar := s.next }) h (ho o hmem).1
      cases hf : opM P call o F { s with bar := s.next } <;> cases hm : opM P call o F' { s with bar := s.next } <;> rw [hf, hm] at h1 <;> first | exact h1.elim | trivial | skip
      obtain ⟨rfl, h2⟩ := h1
      exact ⟨rfl, h2⟩
theorem draw_m {ops : List Oper} (ho : ∀ o ∈ ops, o.op.operands.toList.all (okZ Z) = true ∧ guardZ Z ops o = true) : ∀ (l : List Drawn) (F F' : Fr) (s : St), MOff Z N F F' → SimM Z N (drawM P call ops l F s) (drawM P call ops l F' s)
  | [], F, F', s, h => ⟨rfl, h⟩
  | d :: l, F, F', s, h => by
    simp only [drawM]
    cases hg : lget ops d.ix with
    | none => trivial
    | some o =>
      simp only
      have h1 := drawOp_m (P := P) (call := call) ho (d := d) (o := o) (by rw [lget_eq] at hg; exact List.mem_of_getElem? hg) (s := s) h
      cases hf : drawOp P call ops d o F s <;> cases hm : drawOp P call ops d o F' s <;> rw [hf, hm] at h1 <;> first | exact h1.elim | trivial | skip
      obtain ⟨rfl, h2⟩ := h1
      exact draw_m ho l _ _ _ h2
theorem code_m {I : Table} : ∀ (n : Nat) (c : Code) (F F' : Fr) (s : St), codeZ Z c = true → MOff Z N F F' → SimM Z N (codeM P I n c F s) (codeM P I n c F' s)
  | 0, _, _, _, _, _, _ => trivial
  | n + 1, c, F, F', s, hc, h => by
    cases c with
    | skip => exact ⟨rfl, h⟩
    | label _ => exact ⟨rfl, h⟩
    | exit id => exact ⟨rfl, rfl, h⟩
    | ret => exact ⟨rfl, h⟩
    | seq x y =>
      simp only [codeZ, Bool.and_eq_true] at hc
      have h1 := code_m (I := I) n x F F' s hc.1 h
      simp only [codeM]
      cases hf : codeM P I n x F s <;> cases hm : codeM P I n x F' s <;> rw [hf, hm] at h1 <;> first | exact h1.elim | exact h1 | skip
      obtain ⟨rfl, h2⟩ := h1
      exact code_m n y _ _ _ hc.2 h2
    | cond x y z =>
      simp only [codeZ, Bool.and_eq_true] at hc
      simp only [codeM]
      rw [h.eval hc.1.1]
      cases F'.eval x with
      | bool b => cases b with
        | true => exact code_m n y F F' s hc.1.2 h
        | false => exact code_m n z F F' s hc.2 h
      | _ => trivial
    | block id b =>
      simp only [codeZ] at hc
      have h1 := code_m (I := I) n b F F' s hc h
      simp only [codeM]
      cases hf : codeM P I n b F s <;> cases hm : codeM P I n b F' s <;> rw [hf, hm] at h1 <;> first | exact h1.elim | exact h1 | skip
      obtain ⟨rfl, rfl, h2⟩ := h1
      simp only
      split
      · exact ⟨rfl, h2⟩
      · exact ⟨rfl, rfl, h2⟩
    | loop b =>
      simp only [codeZ] at hc
      have h1 := code_m (I := I) n b F F' s hc h
      simp only [codeM]
      cases hf : codeM P I n b F s <;> cases hm : codeM P I n b F' s <;> rw [hf, hm] at h1 <;> first | exact h1.elim | exact h1 | skip
      obtain ⟨rfl, h2⟩ := h1
      exact code_m n (.loop b) _ _ _ (by simpa only [codeZ] using hc) h2
    | region id ops draw =>
      simp only [codeZ] at hc
      simp only [codeM]
      cases draw with
      | false => exact ops_m ops.toList ops.toList F F' s hc h
      | true =>
        simp only
        cases planB ops.toList (plan ops.toList) with
        | false => trivial
        | true =>
          refine draw_m (fun o ho => ?_) _ F F' s h
          unfold opsZ at hc
          rw [List.all_eq_true] at hc
          simpa using hc o ho
    | _ => trivial
end
end Go.M
