/- undo.Least, behind the loop over what is known. -/
/- undo.Least as a function of this machine: the loop over the map in one step. -/
/- The reference's least cleaning, in plain words. -/
/- The reference of cleanings: sets in lists, what a set needs. -/
import Derived.Test.YtdejleegamcioaaGreatL17
namespace Go.Proofs.YtdejleegamcioaaGreat
open Go Go.M

theorem of36_0 : offF Tryz.prog 36 0 = some 0 := by kernel_rfl
theorem of36_1 : offF Tryz.prog 36 1 = some 1 := by kernel_rfl
theorem pf99_0 : partF Tryz.prog 99 0 = some (some (none), 0) := by kernel_rfl
theorem sh31 : shapeOf Tryz.prog 31 = some (none) := by kernel_rfl
theorem sh36 : shapeOf Tryz.prog 36 = some (some 2) := by kernel_rfl
theorem sz103 : sizeF Tryz.prog 103 = some 1 := by kernel_rfl
theorem sz22 : sizeF Tryz.prog 22 = some 1 := by kernel_rfl
theorem zf103 : zeroF Tryz.prog 103 = some [.nilFunc] := by kernel_rfl
theorem zf25 : zeroF Tryz.prog 25 = some [.slice none 0 0] := by kernel_rfl

set_option maxHeartbeats 4000000 in
set_option maxRecDepth 10000 in
theorem tail_ok {I : Table} (hI : Plain I) {s s2 : St} {G : FF} {w bad : Int} {js : List (Int × Int)} {may : List Sp} (hm : MayOK may) (hw0 : 0 < w) (hw1 : w < 65536) (hbb : (bb js bad may w).1 < 65536) {b10 bK b16 bS r cS n0 : Nat} {E : List Ent} {ks : List Int} (hg : Good js bad may E) (hk : w ∈ keysE E) (hks : ∀ x ∈ ks, x ∈ keysE E) (hkl : ks.length ≤ 10000000) (hcS : ks.length ≤ cS / 2)
    (H : HL [] s s2 [(b16, .cells [.slice (some ⟨bS, 0, none⟩) ks.length cS, .slice none 0 0] 36), (bS, .cells (ints ks) 23), (bK, .cells [.map (some r)] 96), (r, mapO E), (b10, .cells [.slice none 0 0, .slice none 0 0] 36)] n0) (hroom : s.next + (n0 + 2 * ks.length + 400000) ≤ limit) :
    CodeW Tryz.prog I leastTail (lay G [(0, .int .i64 w), (10, ptr b10), (13, ptr bK), (15, .int .i64 (bb js bad may w).1), (16, ptr b16)]) s2
      (retQ Tryz.prog Tryz.f12.results.toList fun v' s' => ∃ (D : Hp') (sx p1 p2 : Slc), v' = .tuple ⟨[sx.v, .int .i64 (bb js bad may w).1, .agg ⟨[p1.v, p2.v]⟩, .int .i64 0]⟩ ∧ HL [] s s' D (n0 + 2 * ks.length + 400000) ∧ SlG D 62 10 sx.v ((tk js bad may (w.toNat + 1) w).map Sp.cells) ∧ SlG D 23 1 p1.v (ks.map dc) ∧ SlG D 3 1 p2.v ((ks.map fun q => (bb js bad may q).1).map dc)) := by
  have hrg := bb_range (js := js) (bad := bad) (may := may) w
  have hkb : b16 ≠ b10 := by have hd := H.dist; simp only [List.pairwise_cons, List.mem_cons, List.not_mem_nil, or_false, forall_eq_or_imp, forall_eq] at hd; omega
  refine cw_seq ?_
  refine cR ?_
  refine oO rfl (fA of36_0 rfl ?_)
  refine oO rfl (lO sh31 rfl (by exact H.own0) rfl ?_)
  refine oO rfl (op_len un31 rfl rfl rfl ?_)
  refine oO rfl (op_moveC ?_)
  refine ops_nil ?_
  refine cw_block ?_
  refine cw_loop (fun k F s1 => ∃ (G : FF) (i : Nat) (D2 : Hp') (so : Slc) (ls : List Int), F = lay G [(0, .int .i64 w), (10, ptr b10), (13, ptr bK), (15, .int .i64 (bb js bad may w).1), (16, ptr b16), (55, .slice (some ⟨bS, 0, none⟩) ks.length cS), (56, .int .i64 (ks.length : Int)), (57, .int .i64 (i : Int))] ∧ HL [] s s1 ([(b16, .cells [.slice (some ⟨bS, 0, none⟩) ks.length cS, so.v] 36), (bS, .cells (ints ks) 23), (bK, .cells [.map (some r)] 96), (r, mapO E), (b10, .cells [.slice none 0 0, .slice none 0 0] 36)] ++ D2) (n0 + 2 * i) ∧ Own 3 1 D2 so.v (ints ls) ls.length ∧ ls = (ks.take i).map (fun q => (bb js bad may q).1) ∧ ls.length = i ∧ i ≤ ks.length ∧ k = ks.length - i) ?_ ks.length _ _ ?_
  · rintro k F s1 ⟨G, i, D2, so, ls, rfl, H, ho, hls, hli, hi, rfl⟩
    refine cR ?_
    refine oO rfl (op_lss rfl rfl (fun h => ?_) (fun h => ?_))
    · refine ops_nil ?_
      refine cw_seq ?_
      refine cT rfl ?_
      refine cw_skip ?_
      refine sN ?_
      refine cw_seq ?_
      refine cw_block ?_
      refine cR ?_
      refine oO rfl (op_indexS el31 rfl rfl (by omega) (by omega) ?_)
      refine oO rfl (lO sh23 rfl H.own1 (lget_ints' (k := i) (by omega) (by omega)) ?_)
      refine oO rfl (aI rfl ?_)
      refine ops_nil ?_
      refine cG ?_
      refine oO rfl (fA of36_1 rfl ?_)
      refine oO rfl (lO sh22 rfl (by exact H.own0) rfl ?_)
      refine oO rfl (lO sh96 rfl (by exact H.own2) rfl ?_)
      refine oO rfl (mI rfl ?_)
      obtain ⟨e, hfe⟩ := find_of_key (hks (ks.getD i 0) (getD_mem (by omega)))
      refine oO rfl (op_lookupSome (e := e) un96 un23 rfl rfl H.own3 hfe ?_)
      refine oO rfl (op_field pf99_0 rfl rfl ?_)
      refine oO rfl (op_buildSlice (c := [.int _ _]) H sl22 rfl rfl (by omega) (fun b67 s1 H => ?_))
      have hgt := H.own0
      have H := HL.swap (A := [_, _, _, _, _]) (B := D2) H.drop0
      refine oO rfl (op_appendOwn H ho sl22 un22 rfl rfl rfl (elems_all hgt rfl) (by decide) rfl rfl (by omega) (by omega) (fun b68 s68 H ho => ?_))
      refine oO rfl (fA of36_1 rfl ?_)
      refine oO rfl (op_store1 (vs := [.slice _ _ _]) H sz22 rfl rfl rfl rfl rfl (by omega) (fun s2 H => ?_))
      refine ops_nil ?_
      refine blk_norm ?_
      refine sN ?_
      refine cG ?_
      refine oO rfl (op_add rfl rfl (by unfold In64; omega) ?_)
      refine oO rfl (mI rfl ?_)
      refine ops_nil ?_
      refine loop_norm ?_
      refine ⟨ks.length - (i + 1), by omega, _, i + 1, [(b68, .cells (ints ls ++ [.int .i64 e.n]) 3)], ⟨some ⟨b68, 0, none⟩, ls.length + 1, 2 * (ls.length + 1) + 1⟩, ls ++ [e.n], slots ⟨rfl, rfl, rfl, rfl, rfl, rfl, rfl, rfl, trivial⟩, ?_, ?_, ?_, by simp; omega, by omega, rfl⟩
      · exact (HL.swap (A := [_]) (B := [_, _, _, _, _]) H).up (by omega)
      · rw [ints_append, List.length_append]
        exact ho
      · rw [List.take_succ_eq_append_getElem (show i < ks.length by omega), List.map_append, ← hls]
        have hv := hg.val e (of_find hfe).1
        rw [(of_find hfe).2] at hv
        simp only [List.map_cons, List.map_nil, List.append_cancel_left_eq, List.cons.injEq, and_true]
        have he : e.n = (bb js bad may (ks.getD i 0)).1 := congrArg Prod.fst hv
        rw [he]
        simp [List.getD_eq_getElem?_getD, List.getElem?_eq_getElem (show i < ks.length by omega)]
    · refine ops_nil ?_
      refine cw_seq ?_
      refine cE rfl ?_
      refine cw_exit ?_
      refine seq_exit ?_
      refine loop_exit ?_
      refine blk_here ?_
      refine sN ?_
      refine cR ?_
      refine oO rfl (op_alloc H zf25 (by omega) (fun b20 s3 H => ?_))
      refine ops_nil ?_
      refine cR ?_
      refine oO rfl (op_alloc H zf103 (by omega) (fun b21 s4 H => ?_))
      refine ops_nil ?_
      refine cR ?_
      refine oO rfl (op_makeFunc ?_)
      refine oO rfl (op_store0 (vs := [_]) H sz103 rfl rfl rfl rfl rfl (by omega) (fun s5 H => ?_))
      refine ops_nil ?_
      refine cR ?_
      refine oO rfl (lO sh103 rfl (by exact H.own0) rfl ?_)
      refine oO rfl (mI rfl ?_)
      refine oO rfl (oC rfl fc44 rfl ?_)
      have hst : TkSt _ r bK b20 b21 E [] ⟨none, 0, 0⟩ [] := ⟨H.own4, H.lt4, H.own0, H.lt0, H.own5, H.lt5, (by intro p hp; rw [List.mem_singleton] at hp; subst hp; exact ⟨H.own1, H.lt1, (H.own (b20, .cells [.slice none 0 0] 25) (by simp)).2.2.1⟩), by simp, .nil⟩
      obtain ⟨_, s9, hr, D3, so3, rfl, Hc, ho3⟩ := take_ok hI hm hg (w.toNat + 1) w hw0 (by omega) hk hbb _ [] ⟨none, 0, 0⟩ [] H.fine hst (by simp; omega) (by have := H.most; omega)
      refine ⟨_, _, hr, ?_⟩
      clear hr
      have H := HL.callW (A := [_]) (L := _ :: _ :: _ :: _ :: _ :: _ :: D2) (HL.mid (A := [_]) (B := [_]) (C := _ :: _ :: _ :: _ :: _ :: D2) H) Hc (by intro b hb; simp only [List.map_nil, List.mem_singleton] at hb; subst hb; exact ⟨_, List.mem_singleton.mpr rfl⟩) (by intro p hp; rw [List.mem_singleton] at hp; subst hp; simp)
      clear Hc
      have H := HL.mid (A := _ :: D3) (B := [_, _, _, _, _, _]) (C := D2) H
      simp only [List.cons_append, List.nil_append] at H
      refine ops_nil ?_
      refine cw_dseq [⟨0, 0, .light, [2]⟩, ⟨1, 0, .light, [0, 2]⟩, ⟨2, 0, .light, [0]⟩, ⟨3, 1, .light, [2]⟩, ⟨4, 11, .light, [2]⟩, ⟨5, 31, .whole, []⟩, ⟨6, 63, .light, []⟩] (by kernel_rfl) (by kernel_rfl) ?_
      refine dr_load1 rfl rfl sh25 rfl (by exact H.own6) (by exact H.lim6 (by omega)) rfl ?_
      refine dL rfl rfl (mI rfl ⟨rfl, ?_⟩)
      refine dr_loadN rfl rfl sh36 rfl (by exact H.own1) (by exact H.lim1 (by omega)) rfl ?_
      refine dL rfl rfl (aS rfl ⟨rfl, ?_⟩)
      refine dL rfl rfl (aI rfl ⟨rfl, ?_⟩)
      refine dr_store5 (vs := [.slice _ _ _, .slice _ _ _]) (fr := []) H rfl rfl sz36 rfl rfl rfl rfl rfl rfl (by have hd := H.dist; simp only [List.pairwise_cons, List.mem_cons, List.not_mem_nil, or_false, forall_eq_or_imp, forall_eq, false_imp_iff, implies_true] at hd ⊢; try omega) (by omega) (fun s6 H => ?_)
      refine dL rfl rfl (aC ⟨rfl, ?_⟩)
      refine draw_nil ?_
      refine cw_ret ?_
      refine ret_end ?_
      refine end_ttct rfl rfl sh36 rfl (by exact H.own5) rfl rfl ?_
      have hi2 : i = ks.length := by omega
      rw [hi2, List.take_length] at hls
      refine ⟨_, so3, ⟨some ⟨bS, 0, none⟩, ks.length, cS⟩, so, rfl, H.up (by omega), ?_, ?_, ?_⟩
      · refine (Own.slG (es := (tk js bad may (w.toNat + 1) w).map Sp.cells) (by intro x hx; obtain ⟨y, _, rfl⟩ := List.mem_map.mp hx; rfl) (by rw [List.length_map]; rw [List.nil_append] at ho3; exact ho3)).mono ?_
        intro p hp
        simp only [List.mem_cons, List.mem_append, hp, true_or, or_true]
      · exact SlG.block bS 0 cS (ints ks) (by simp [Slc.v]) (by simp only [List.mem_cons, List.mem_append, true_or, or_true]) (by simpa using hcS) (fun k hk => by rw [ints_flat]; exact flat_get (by intro x hx; obtain ⟨y, _, rfl⟩ := List.mem_map.mp hx; rfl) hk)
      · rw [← hls]
        refine (Own.slG (es := ls.map dc) (by intro x hx; obtain ⟨y, _, rfl⟩ := List.mem_map.mp hx; rfl) (by rw [List.length_map, ← ints_flat]; exact ho)).mono ?_
        intro p hp
        simp only [List.mem_cons, List.mem_append, hp, true_or, or_true]
  · exact ⟨_, 0, [], ⟨none, 0, 0⟩, [], slots ⟨rfl, rfl, rfl, rfl, rfl, rfl, rfl, rfl, trivial⟩, H, .nil, by simp, rfl, by omega, by omega⟩

end Go.Proofs.YtdejleegamcioaaGreat
namespace Go.Proofs.YtdejleegamcioaaGreat
open Go Go.M

/-- The keys of a map whose entries stand in the order in which they came. -/
def keysL : List MapEntry → Nat → Option (List Int)
  | [], _ => some []
  | e :: l, i => match e.key with
    | .int .i64 k => match Nat.beq e.born i, keysL l (i + 1) with
      | true, some r => some (k :: r)
      | _, _ => none
    | _ => none
def insI (x : Int) : List Int → List Int
  | [] => [x]
  | y :: l => match ile x y with
    | true => x :: y :: l
    | false => y :: insI x l
def isort : List Int → List Int
  | [] => []
  | x :: l => insI x (isort l)
/-- The state behind the loop that collects the keys, and the sort. -/
def segS (v13 v16 : Value) (s : St) : Option St :=
  match v13, v16 with
  | .pointer (some ⟨bK, 0, none⟩), .pointer (some ⟨b16, 0, none⟩) =>
    match s.get bK, s.get b16 with
    | some (.cells [.map (some r)] _), some (.cells [.slice none 0 0, v2] 36) =>
      match s.get r with
      | some (.map es clock) => match keysL es.toList 0, Nat.beq clock es.size && s.may b16 && Nat.blt (s.next + 2 * es.size) 281474976710655 && Nat.blt 0 es.size && Nat.blt es.size 1000000 && Go.M.plainCell v2 with
        | some ks, true => some (({ s with next := s.next + 2 * es.size }.new (.cells (ints (isort ks)) 23)).put b16 (some (.cells [.slice (some ⟨s.next + 2 * es.size, 0, none⟩) es.size (2 * es.size + 1), v2] 36)))
        | _, _ => none
      | _ => none
    | _, _ => none
  | _, _ => none
def noTable : Table := fun _ => none
noncomputable def leastN (n : Nat) (args : Array Value) (s : St) : CallOut :=
  match Nat.beq (llen args.toList 0) 4 with
  | true => match codeM Tryz.prog noTable n leastPre (Fr.make args 78) s with
    | .ret a s' => finish Tryz.prog Tryz.f12 a s'
    | .normal a s1 => match segS (a.get 13) (a.get 16) s1 with
      | some s2 => match codeM Tryz.prog noTable n leastTail a s2 with
        | .ret a s' => finish Tryz.prog Tryz.f12 a s'
        | .normal a s' => finish Tryz.prog Tryz.f12 a s'
        | _ => .stuck
      | none => .stuck
    | _ => .stuck
  | false => .stuck
def Ever (args : Array Value) (s : St) (v : Value) (s' : St) : Prop := ∃ N, ∀ n, N ≤ n → leastN n args s = .ret v s'
theorem ever_one {args : Array Value} {s : St} {v v2 : Value} {s1 s2 : St} (h1 : Ever args s v s1) (h2 : Ever args s v2 s2) : v = v2 ∧ s1 = s2 := by
  obtain ⟨n1, h1⟩ := h1
  obtain ⟨n2, h2⟩ := h2
  have := (h1 (n1 + n2) (by omega)).symm.trans (h2 (n1 + n2) (by omega))
  simp only [CallOut.ret.injEq] at this
  exact this
open Classical in
noncomputable def leastI (args : Array Value) (s : St) : CallOut :=
  if h : ∃ p : Value × St, Ever args s p.1 p.2 then .ret h.choose.1 h.choose.2 else .stuck
theorem leastI_eq {args : Array Value} {s : St} {v : Value} {s' : St} (h : Ever args s v s') : leastI args s = .ret v s' := by
  have hx : ∃ p : Value × St, Ever args s p.1 p.2 := ⟨(v, s'), h⟩
  unfold leastI
  rw [dif_pos hx]
  obtain ⟨e1, e2⟩ := ever_one hx.choose_spec h
  rw [e1, e2]

theorem plain_none : Plain noTable := fun _ _ _ => rfl
theorem preN : codeN 78 leastPre = true := by kernel_rfl
theorem tailN : codeN 78 leastTail = true := by kernel_rfl
theorem resN : Tryz.f12.results.toList.all (resultB 78) = true := by kernel_rfl

theorem keys_ents : ∀ (E : List Ent) (i : Nat), keysL (ents i E) i = some (keysE E)
  | [], _ => rfl
  | e :: E, i => by simp only [ents, keysL, keys_ents E (i + 1), Nat.beq_refl]; rfl
theorem insI_perm (x : Int) : ∀ l, (insI x l).Perm (x :: l)
  | [] => .refl _
  | y :: l => by
    simp only [insI]
    split
    · exact .refl _
    · exact (List.Perm.cons y (insI_perm x l)).trans (List.Perm.swap _ _ _)
theorem isort_perm : ∀ l, (isort l).Perm l
  | [] => .refl _
  | x :: l => (insI_perm x (isort l)).trans ((isort_perm l).cons x)
theorem ents_len : ∀ (E : List Ent) (i : Nat), (ents i E).length = E.length
  | [], _ => rfl
  | e :: E, i => by simp only [ents, List.length_cons, ents_len E (i + 1)]

theorem _root_.Go.M.HL.skip {W : List Nat} {s0 s : St} {L : Hp'} {n : Nat} (H : HL W s0 s L n) (k : Nat) : HL W s0 { s with next := s.next + k } L (n + k) :=
  ⟨H.bar, H.prot, H.wfb, H.wfp, by have := H.le; simp only; omega, by have := H.most; simp only; omega, fun p hp => by
    obtain ⟨h1, h2, h3, h4⟩ := H.own p hp
    exact ⟨h1, by simp only; omega, h3, h4⟩, H.dist, H.kept⟩
theorem seg_ok {s s1 : St} {b16 bK r b10 n0 : Nat} {E : List Ent} (H : HL [] s s1 [(b16, .cells [.slice none 0 0, .slice none 0 0] 36), (bK, .cells [.map (some r)] 96), (r, mapO E), (b10, .cells [.slice none 0 0, .slice none 0 0] 36)] n0) (hE : 0 < E.length) (hE2 : E.length < 1000000) (hr : s.next + (n0 + 2 * E.length + 1) ≤ limit) :
    ∃ s2 bS, segS (ptr bK) (ptr b16) s1 = some s2 ∧ HL [] s s2 [(b16, .cells [.slice (some ⟨bS, 0, none⟩) (isort (keysE E)).length (2 * E.length + 1), .slice none 0 0] 36), (bS, .cells (ints (isort (keysE E))) 23), (bK, .cells [.map (some r)] 96), (r, mapO E), (b10, .cells [.slice none 0 0, .slice none 0 0] 36)] (n0 + 2 * E.length + 1) := by
  have hm := H.most
  have hmay : s1.may b16 = true := (H.own (b16, .cells [.slice none 0 0, .slice none 0 0] 36) (by simp)).2.2.1
  have hlen : (isort (keysE E)).length = E.length := by rw [(isort_perm _).length_eq]; simp [keysE]
  have hg := (Nat.blt_eq.mpr (show s1.next + 2 * E.length < 281474976710655 by unfold limit at hr; omega))
  have h1 : Nat.blt 0 E.length = true := Nat.blt_eq.mpr hE
  have h2 : Nat.blt E.length 1000000 = true := Nat.blt_eq.mpr hE2
  have hsz : (⟨ents 0 E⟩ : Array MapEntry).size = E.length := ents_len E 0
  refine ⟨(({ s1 with next := s1.next + 2 * E.length }).new (.cells (ints (isort (keysE E))) 23)).put b16 (some (.cells [.slice (some ⟨s1.next + 2 * E.length, 0, none⟩) (isort (keysE E)).length (2 * E.length + 1), .slice none 0 0] 36)), s1.next + 2 * E.length, ?_, ?_⟩
  rotate_left
  · have H2 := (H.skip (2 * E.length)).new (.cells (ints (isort (keysE E))) 23) (by unfold limit at *; omega)
    have H3 := H2.put1 (.cells [.slice (some ⟨s1.next + 2 * E.length, 0, none⟩) (isort (keysE E)).length (2 * E.length + 1), .slice none 0 0] 36) (by omega)
    exact HL.perm H3 (List.Perm.swap _ _ _)
  · simp only [segS, H.own0, H.own1, H.own2, mapO, keys_ents, hsz, hmay, hg, h1, h2, hlen, Nat.beq_refl, Bool.and_self, Go.M.plainCell]
end Go.Proofs.YtdejleegamcioaaGreat
namespace Go.Proofs.YtdejleegamcioaaGreat
open Go Go.M

/-! ### Strictly increasing lists -/
abbrev Inc (l : List Int) : Prop := l.Pairwise (· < ·)
theorem inc_ext : ∀ {l l' : List Int}, Inc l → Inc l' → (∀ x, x ∈ l ↔ x ∈ l') → l = l'
  | [], [], _, _, _ => rfl
  | [], y :: l', _, _, h => absurd ((h y).mpr (by simp)) (by simp)
  | x :: l, [], _, _, h => absurd ((h x).mp (by simp)) (by simp)
  | x :: l, y :: l', h1, h2, h => by
    rw [Inc, List.pairwise_cons] at h1 h2
    have hx := (h x).mp (by simp)
    have hy := (h y).mpr (by simp)
    have e : x = y := by
      rcases List.mem_cons.mp hx with e | hx
      · exact e
      · rcases List.mem_cons.mp hy with e | hy
        · exact e.symm
        · have := h1.1 y hy; have := h2.1 x hx; omega
    subst e
    congr 1
    refine inc_ext h1.2 h2.2 fun z => ⟨fun hz => ?_, fun hz => ?_⟩
    · rcases List.mem_cons.mp ((h z).mp (List.mem_cons_of_mem _ hz)) with e | hz2
      · have := h1.1 z hz; omega
      · exact hz2
    · rcases List.mem_cons.mp ((h z).mpr (List.mem_cons_of_mem _ hz)) with e | hz2
      · have := h2.1 z hz; omega
      · exact hz2
theorem Inc.nodup {l : List Int} (h : Inc l) : l.Nodup := List.Pairwise.imp (fun h => by omega) h
def addZ (l : List Int) (x : Int) : List Int := l.filter (fun y => decide (y < x)) ++ x :: l.filter (fun y => decide (x < y))
theorem mem_addZ {l : List Int} {x y : Int} : y ∈ addZ l x ↔ y ∈ l ∨ y = x := by
  unfold addZ
  simp only [List.mem_append, List.mem_cons, List.mem_filter, decide_eq_true_eq]
  constructor
  · rintro (⟨h, _⟩ | h | ⟨h, _⟩)
    · exact .inl h
    · exact .inr h
    · exact .inl h
  · rintro (h | h)
    · rcases Int.lt_trichotomy y x with h2 | h2 | h2
      · exact .inl ⟨h, h2⟩
      · exact .inr (.inl h2)
      · exact .inr (.inr ⟨h, h2⟩)
    · exact .inr (.inl h)
theorem addZ_inc {l : List Int} {x : Int} (h : Inc l) : Inc (addZ l x) := by
  unfold addZ Inc
  rw [List.pairwise_append, List.pairwise_cons]
  refine ⟨h.filter _, ⟨fun y hy => ?_, h.filter _⟩, fun a ha b hb => ?_⟩
  · simpa using (List.mem_filter.mp hy).2
  · have h1 : a < x := by simpa using (List.mem_filter.mp ha).2
    rcases List.mem_cons.mp hb with e | hb
    · omega
    · have : x < b := by simpa using (List.mem_filter.mp hb).2
      omega
theorem addZ_old {l : List Int} {x : Int} (h : Inc l) (hx : x ∈ l) : addZ l x = l :=
  inc_ext (addZ_inc h) h fun y => by
    rw [mem_addZ]
    constructor
    · rintro (h | rfl)
      · exact h
      · exact hx
    · exact .inl
theorem addZ_new {l : List Int} {x : Int} (hx : x ∉ l) : (addZ l x).length = l.length + 1 := by
  unfold addZ
  have h3 := List.length_eq_countP_add_countP (fun y => decide (y < x)) (l := l)
  have h4 : l.countP (fun a => decide (¬ decide (a < x) = true)) = (l.filter fun y => decide (x < y)).length := by
    rw [List.countP_eq_length_filter]
    congr 1
    refine List.filter_congr fun y hy => ?_
    have : y ≠ x := fun e => hx (e ▸ hy)
    simp only [decide_eq_true_eq, Int.not_lt]
    exact decide_eq_decide.mpr ⟨fun _ => by omega, fun _ => by omega⟩
  rw [List.countP_eq_length_filter] at h3
  simp only [List.length_append, List.length_cons]
  omega
theorem addZ_len {l : List Int} {x : Int} (h : Inc l) : l.length ≤ (addZ l x).length ∧ (addZ l x).length ≤ l.length + 1 ∧ ((addZ l x).length = l.length → x ∈ l) := by
  by_cases hx : x ∈ l
  · rw [addZ_old h hx]; exact ⟨Nat.le_refl _, by omega, fun _ => hx⟩
  · rw [addZ_new hx]; exact ⟨by omega, Nat.le_refl _, fun h => by omega⟩

theorem insI_le {x : Int} : ∀ {l : List Int}, l.Pairwise (· ≤ ·) → (insI x l).Pairwise (· ≤ ·)
  | [], _ => by simp [insI]
  | y :: l, h => by
    rw [insI]
    rw [List.pairwise_cons] at h
    cases hb : ile x y with
    | true =>
      have hxy : x ≤ y := by simpa [ile_eq] using hb
      simp only
      rw [List.pairwise_cons, List.pairwise_cons]
      refine ⟨fun z hz => ?_, h.1, h.2⟩
      rcases List.mem_cons.mp hz with e | hz
      · omega
      · have := h.1 z hz; omega
    | false =>
      have hxy : ¬ x ≤ y := by simpa [ile_eq] using hb
      simp only
      rw [List.pairwise_cons]
      refine ⟨fun z hz => ?_, insI_le h.2⟩
      rcases List.mem_cons.mp ((insI_perm x l).mem_iff.mp hz) with e | hz
      · omega
      · exact h.1 z hz
theorem isort_le : ∀ (l : List Int), (isort l).Pairwise (· ≤ ·)
  | [] => .nil
  | x :: l => insI_le (isort_le l)
theorem isort_inc {l : List Int} (h : l.Nodup) : Inc (isort l) := by
  have h1 := isort_le l
  have h2 : (isort l).Nodup := (isort_perm l).nodup_iff.mpr h
  exact (List.Pairwise.and h1 h2).imp fun ⟨a, b⟩ => by omega

/-! ### What comes about -/
section
variable (js : List (Int × Int)) (bad : Int) (may : List Sp)
/-- A list that is closed. -/
def Clo (l : List Sp) (out : List Int) : Prop := ∀ m ∈ l, m.w ∈ out → needsB m.w bad 0 js = true → m.p ∈ out ∧ andNotI m.w m.p ∈ out
variable {js bad may}
theorem Rch.range (hm : MayOK may) {w x : Int} (h0 : 0 < w) (h : Rch js bad may w x) : 0 < x ∧ x ≤ w := by
  induction h with
  | self => omega
  | part h hn hm2 hw ih =>
    obtain ⟨a, b⟩ := hm _ hm2
    have := split_facts a b
    omega
  | @rest S m h hn hm2 hw ih =>
    obtain ⟨a, b⟩ := hm _ hm2
    have := split_facts a b
    subst hw
    omega
theorem Clo.all {out : List Int} {w : Int} (h : Clo js bad may out) (hw : w ∈ out) {x : Int} (hx : Rch js bad may w x) : x ∈ out := by
  induction hx with
  | self => exact hw
  | part _ hn hm hw ih => subst hw; exact (h _ hm ih hn).1
  | rest _ hn hm hw ih => subst hw; exact (h _ hm ih hn).2
theorem Good.closed {E : List Ent} (h : Good js bad may E) : Clo js bad may (keysE E) := fun m hm hk hn => by
  obtain ⟨e, he, hek⟩ := List.mem_map.mp hk
  have := h.clo e he (by rw [hek]; exact hn) m hm hek.symm
  rw [hek] at this
  exact this

/-! ### Numbers -/
def stepN (v : Int → Int) (S : Int) (n : Int) (m : Sp) : Int :=
  if m.w ≠ S then n else if v m.p < 65536 ∧ v (andNotI S m.p) < 65536 then min n (1 + v m.p + v (andNotI S m.p)) else n
theorem stepN_eq {v : Int → Int} {S : Int} {acc : Int × Sp} {m : Sp} : (stepB v S acc m).1 = stepN v S acc.1 m := by
  unfold stepB stepN
  by_cases h : m.w = S
  · have hne : ¬ m.w ≠ S := fun k => k h
    rw [if_neg hne, if_neg hne]
    by_cases h1 : v m.p < 65536 ∧ v (andNotI S m.p) < 65536
    · rw [if_pos h1]
      by_cases h2 : 1 + v m.p + v (andNotI S m.p) < acc.1
      · rw [if_pos ⟨h1.1, h1.2, h2⟩]; simp only; omega
      · rw [if_neg (fun h => h2 h.2.2)]; omega
    · rw [if_neg h1, if_neg (fun h => h1 ⟨h.1, h.2.1⟩)]
  · rw [if_pos h, if_pos h]
theorem foldN_eq {v : Int → Int} {S : Int} : ∀ {l : List Sp} {acc : Int × Sp}, (l.foldl (stepB v S) acc).1 = l.foldl (stepN v S) acc.1
  | [], _ => rfl
  | m :: l, acc => by rw [List.foldl_cons, List.foldl_cons, foldN_eq, stepN_eq]
theorem foldN_pos {v : Int → Int} {S : Int} (hv : ∀ x, 0 ≤ v x) : ∀ {l : List Sp} {n : Int}, 0 < n → 0 < l.foldl (stepN v S) n
  | [], _, h => h
  | m :: l, n, h => by
    rw [List.foldl_cons]
    refine foldN_pos hv ?_
    have := hv m.p
    have := hv (andNotI S m.p)
    unfold stepN
    split
    · exact h
    · split <;> omega
theorem bb_num (hm : MayOK may) {S : Int} (h0 : 0 < S) : (bb js bad may S).1 = if needsB S bad 0 js = true then may.foldl (stepN (fun x => (bb js bad may x).1) S) 65536 else 0 := by
  rw [bb_eq hm h0]
  split
  · exact foldN_eq
  · rfl
theorem bb_pos (hm : MayOK may) {S : Int} (h0 : 0 < S) (hn : needsB S bad 0 js = true) : 0 < (bb js bad may S).1 := by
  rw [bb_num hm h0, if_pos hn]
  exact foldN_pos (fun x => (bb_range x).1) (by omega)
/-- The number of a set in a list of sets with one of numbers. -/
def atP : List Int → List Int → Int → Int
  | s :: S, n :: N, x => if s = x then n else atP S N x
  | _, _, _ => -1
theorem atP_map {g : Int → Int} {x : Int} : ∀ {l : List Int}, x ∈ l → atP l (l.map g) x = g x
  | [], h => by simp at h
  | y :: l, h => by
    rw [List.map_cons, atP]
    by_cases e : y = x
    · rw [if_pos e, e]
    · rw [if_neg e]
      rcases List.mem_cons.mp h with e2 | h
      · exact absurd e2.symm e
      · exact atP_map h

/-! ### The first split of the least cleaning -/
theorem fold_first {v : Int → Int} {S : Int} (hv : ∀ x, 0 ≤ v x) : ∀ (l : List Sp) (acc : Int × Sp), acc.1 ≤ 65536 →
    (l.foldl (stepB v S) acc).1 = acc.1 ∧ (l.foldl (stepB v S) acc).2 = acc.2 ∨
    (l.foldl (stepB v S) acc).1 < acc.1 ∧ ∃ l1 l2, l = l1 ++ (l.foldl (stepB v S) acc).2 :: l2 ∧ (l.foldl (stepB v S) acc).2.w = S ∧ 1 + v (l.foldl (stepB v S) acc).2.p + v (andNotI S (l.foldl (stepB v S) acc).2.p) = (l.foldl (stepB v S) acc).1 ∧ ∀ m ∈ l1, m.w = S → 1 + v m.p + v (andNotI S m.p) ≠ (l.foldl (stepB v S) acc).1
  | [], acc, _ => .inl ⟨rfl, rfl⟩
  | m :: l, acc, ha => by
    rw [List.foldl_cons]
    have h1 := hv m.p
    have h2 := hv (andNotI S m.p)
    have key : stepB v S acc m = acc ∧ (m.w = S → acc.1 ≤ 1 + v m.p + v (andNotI S m.p)) ∨ stepB v S acc m = (1 + v m.p + v (andNotI S m.p), m) ∧ m.w = S ∧ 1 + v m.p + v (andNotI S m.p) < acc.1 := by
      unfold stepB
      by_cases hw : m.w = S
      · rw [if_neg (by simpa using hw)]
        by_cases hc : v m.p < 65536 ∧ v (andNotI S m.p) < 65536 ∧ 1 + v m.p + v (andNotI S m.p) < acc.1
        · rw [if_pos hc]; exact .inr ⟨rfl, hw, hc.2.2⟩
        · rw [if_neg hc]; exact .inl ⟨rfl, fun _ => by omega⟩
      · rw [if_pos hw]; exact .inl ⟨rfl, fun h => absurd h hw⟩
    rcases key with ⟨e, hk⟩ | ⟨e, hk, hlt⟩
    · rw [e]
      rcases fold_first hv l acc ha with h | ⟨h, l1, l2, h3, h4, h5, h6⟩
      · exact .inl h
      · refine .inr ⟨h, m :: l1, l2, by rw [List.cons_append, ← h3], h4, h5, fun x hx hxw => ?_⟩
        rcases List.mem_cons.mp hx with e2 | hx
        · subst e2; have := hk hxw; omega
        · exact h6 x hx hxw
    · rw [e]
      rcases fold_first hv l (1 + v m.p + v (andNotI S m.p), m) (by simp only; omega) with ⟨h, h3⟩ | ⟨h, l1, l2, h3, h4, h5, h6⟩
      · refine .inr ⟨by rw [h]; exact hlt, [], l, by rw [h3]; rfl, by rw [h3]; exact hk, by rw [h, h3], fun x hx => by simp at hx⟩
      · refine .inr ⟨by simp only at h; omega, m :: l1, l2, by rw [List.cons_append, ← h3], h4, h5, fun x hx hxw => ?_⟩
        rcases List.mem_cons.mp hx with e2 | hx
        · subst e2; simp only at h; omega
        · exact h6 x hx hxw
/-- The first split of the least cleaning: where it stands. -/
theorem bb_first (hm : MayOK may) {S : Int} (h0 : 0 < S) (hp : 0 < (bb js bad may S).1) (hl : (bb js bad may S).1 < 65536) :
    ∃ l1 l2, may = l1 ++ (bb js bad may S).2 :: l2 ∧ (bb js bad may S).2.w = S ∧ 1 + (bb js bad may (bb js bad may S).2.p).1 + (bb js bad may (andNotI S (bb js bad may S).2.p)).1 = (bb js bad may S).1 ∧ ∀ m ∈ l1, m.w = S → 1 + (bb js bad may m.p).1 + (bb js bad may (andNotI S m.p)).1 ≠ (bb js bad may S).1 := by
  have e := bb_eq (js := js) (bad := bad) hm h0
  by_cases hn : needsB S bad 0 js = true
  · rw [if_pos hn] at e
    rcases fold_first (v := fun x => (bb js bad may x).1) (S := S) (fun x => (bb_range x).1) may (65536, default) (by simp) with ⟨h, _⟩ | ⟨_, h⟩
    · rw [← e] at h; simp only at h; omega
    · rw [← e] at h; exact h
  · rw [if_neg hn] at e
    rw [e] at hp
    simp at hp
theorem at_split {l l1 l2 : List Sp} {x : Sp} (h : l = l1 ++ x :: l2) : l[l1.length]? = some x := by
  subst h
  simp
/-- So a search for it finds just it. -/
theorem bb_found (hm : MayOK may) {S : Int} (h0 : 0 < S) (hp : 0 < (bb js bad may S).1) (hl : (bb js bad may S).1 < 65536) {i : Nat} (hi : i < may.length)
    (hw : (may.getD i default).w = S) (hs : 1 + (bb js bad may (may.getD i default).p).1 + (bb js bad may (andNotI S (may.getD i default).p)).1 = (bb js bad may S).1)
    (hb : ∀ m ∈ may.take i, m.w = S → 1 + (bb js bad may m.p).1 + (bb js bad may (andNotI S m.p)).1 ≠ (bb js bad may S).1) : may.getD i default = (bb js bad may S).2 := by
  obtain ⟨l1, l2, h1, h2, h3, h4⟩ := bb_first (js := js) (bad := bad) hm h0 hp hl
  rcases Nat.lt_trichotomy i l1.length with h | h | h
  · exfalso
    refine h4 (may.getD i default) ?_ hw hs
    rw [List.getD_eq_getElem?_getD, h1, List.getElem?_append_left h, List.getElem?_eq_getElem h]
    simp
  · conv => lhs; rw [List.getD_eq_getElem?_getD, h1]
    rw [h, List.getElem?_append_right (Nat.le_refl _)]
    simp
  · exfalso
    refine hb (bb js bad may S).2 ?_ h2 h3
    have hx := at_split h1
    exact List.mem_of_getElem? (i := l1.length) (by rw [List.getElem?_take, if_pos h]; exact hx)
theorem bb_finds (hm : MayOK may) {S : Int} (h0 : 0 < S) (hp : 0 < (bb js bad may S).1) (hl : (bb js bad may S).1 < 65536) :
    ¬ ∀ m ∈ may, m.w = S → 1 + (bb js bad may m.p).1 + (bb js bad may (andNotI S m.p)).1 ≠ (bb js bad may S).1 := by
  obtain ⟨l1, l2, h1, h2, h3, h4⟩ := bb_first (js := js) (bad := bad) hm h0 hp hl
  intro h
  exact h _ (List.mem_of_getElem? (at_split h1)) h2 h3
end
/-! ### What Least returns -/
section
variable (js : List (Int × Int)) (bad : Int) (may : List Sp) (w : Int)
/-- A cleaning, its number, levels and an error. -/
structure LOut where
  x : List Sp
  n : Int
  ks : List Int
  ns : List Int
  e : Int
def LIs (o : LOut) : Prop :=
  (errZ w js bad may ≠ 0 ∧ o = ⟨[], 0, [], [], errZ w js bad may⟩) ∨
  (errZ w js bad may = 0 ∧ (bb js bad may w).1 = 65536 ∧ o = ⟨[], 0, [], [], 6⟩) ∨
  (errZ w js bad may = 0 ∧ (bb js bad may w).1 < 65536 ∧ Inc o.ks ∧ (∀ k, k ∈ o.ks ↔ Rch js bad may w k) ∧ o.ns = o.ks.map (fun q => (bb js bad may q).1) ∧ o.x = tk js bad may (w.toNat + 1) w ∧ o.n = (bb js bad may w).1 ∧ o.e = 0)
variable {js bad may w}
theorem LIs.same {o o' : LOut} (h : LIs js bad may w o) (h' : LIs js bad may w o') : o = o' := by
  rcases h with ⟨h1, h2⟩ | ⟨h1, h2, h3⟩ | ⟨h1, h2, h3, h4, h5, h6, h7, h8⟩
  · rcases h' with ⟨g1, g2⟩ | ⟨g1, _⟩ | ⟨g1, _⟩
    · rw [h2, g2]
    · exact absurd g1 h1
    · exact absurd g1 h1
  · rcases h' with ⟨g1, g2⟩ | ⟨g1, g2, g3⟩ | ⟨g1, g2, _⟩
    · exact absurd h1 g1
    · rw [h3, g3]
    · omega
  · rcases h' with ⟨g1, g2⟩ | ⟨g1, g2, g3⟩ | ⟨g1, g2, g3, g4, g5, g6, g7, g8⟩
    · exact absurd h1 g1
    · omega
    · have e : o.ks = o'.ks := inc_ext h3 g3 fun x => (h4 x).trans (g4 x).symm
      obtain ⟨x, n, ks, ns, e1⟩ := o
      obtain ⟨x', n', ks', ns', e2⟩ := o'
      simp only at *
      subst e
      rw [h5, g5, h6, g6, h7, g7, h8, g8]
/-- What no error means. -/
theorem err_zero (h : errZ w js bad may = 0) : may.length ≤ 4096 ∧ js.length ≤ 16 ∧ 0 < w ∧ w < 65536 ∧ 0 ≤ bad ∧ bad < 2 ^ js.length ∧ (∀ x ∈ may, splitB x.w x.p = true) ∧ joinsB js = true := by
  unfold errZ at h
  split at h
  · omega
  · split at h
    · omega
    · split at h
      · omega
      · next h3 =>
        split at h
        · next h4 =>
          refine ⟨by omega, by omega, by omega, by omega, by omega, by omega, fun x hx => ?_, h4⟩
          cases hs : splitB x.w x.p with
          | true => rfl
          | false => exact absurd (List.any_eq_true.mpr ⟨x, hx, by rw [hs]; rfl⟩) h3
        · omega
theorem joinsB_all : ∀ {js : List (Int × Int)}, joinsB js = true → ∀ j ∈ js, joinB j ∧ j.1 ≠ j.2
  | [], _ => fun j hj => by simp at hj
  | j :: r, h => by
    rw [joinsB, Bool.and_eq_true] at h
    intro x hx
    rcases List.mem_cons.mp hx with e | hx
    · subst e
      have h1 := h.1
      simp only [Bool.not_eq_true', Bool.or_eq_false_iff, decide_eq_false_iff_not] at h1
      unfold joinB
      omega
    · exact joinsB_all h.2 x hx
end
end Go.Proofs.YtdejleegamcioaaGreat
namespace Go.Proofs.YtdejleegamcioaaGreat
open Go Go.M

theorem fb92 : funcB Tryz.f92 (Tryz.f92.body.getD .skip) 2 = true := by kernel_rfl
theorem fb55 : funcB Tryz.f55 (Tryz.f55.body.getD .skip) 3 = true := by kernel_rfl
theorem fb36 : funcB Tryz.f36 (Tryz.f36.body.getD .skip) 1 = true := by kernel_rfl
theorem fb93 : funcB Tryz.f93 (Tryz.f93.body.getD .skip) 2 = true := by kernel_rfl

theorem filt_yes {p : Int → Bool} {l : List Int} {i : Nat} (h : i < l.length) (hp : p (l.getD i 0) = true) : (l.take (i + 1)).filter p = (l.take i).filter p ++ [l.getD i 0] := by
  rw [List.take_succ_eq_append_getElem h, List.filter_append]
  have e : l[i] = l.getD i 0 := by simp [List.getD_eq_getElem?_getD, List.getElem?_eq_getElem h]
  rw [e, List.filter_cons_of_pos hp, List.filter_nil]
theorem filt_no {p : Int → Bool} {l : List Int} {i : Nat} (h : i < l.length) (hp : p (l.getD i 0) = false) : (l.take (i + 1)).filter p = (l.take i).filter p := by
  rw [List.take_succ_eq_append_getElem h, List.filter_append]
  have e : l[i] = l.getD i 0 := by simp [List.getD_eq_getElem?_getD, List.getElem?_eq_getElem h]
  rw [e, List.filter_cons_of_neg (by rw [hp]; simp), List.filter_nil, List.append_nil]
/-- The two cells of a join in its slice. -/
theorem Sl.gotJ {s : St} {b off len cap : Nat} {l : List (Int × Int)} (h : Sl s 30 2 (.slice (some ⟨b, off, none⟩) len cap) (l.map jc)) {k : Nat} (hk : k < l.length) : ∃ c, s.get b = some (.cells c 30) ∧ lget c (off + ((k : Int)).toNat * 2 + 0) = some (.int .i64 (l.getD k (0, 0)).1) ∧ lget c (off + ((k : Int)).toNat * 2 + 1) = some (.int .i64 (l.getD k (0, 0)).2) := by
  obtain ⟨b', off', c, h1, h2, h3, h4⟩ := h.atJ (i := (k : Int)) rfl hk
  cases h1
  refine ⟨c, h2, ?_⟩
  rw [ltake_eq, ldrop_eq] at h4
  split at h4
  · next hle =>
    rw [Option.some.injEq] at h4
    rw [List.length_drop] at hle
    have e : ∀ j, j < 2 → lget c (off + ((k : Int)).toNat * 2 + j) = (jc (l.getD k (0, 0)))[j]? := by
      intro j hj
      rw [lget_eq, ← h4, List.getElem?_take, if_pos hj, List.getElem?_drop]
    exact ⟨e 0 (by omega), e 1 (by omega)⟩
  · cases h4
theorem dcs_len {l : List Int} : ∀ x ∈ l.map dc, x.length = 1 := by
  intro x hx
  obtain ⟨y, _, rfl⟩ := List.mem_map.mp hx
  rfl
theorem Own.dcs {D : Hp'} {e : TypeId} {v : Value} {l : List Int} (h : Own e 1 D v (ints l) l.length) : SlG D e 1 v (l.map dc) :=
  Own.slG dcs_len (by rw [← ints_flat, List.length_map]; exact h)

set_option maxHeartbeats 4000000 in
set_option maxRecDepth 10000 in
theorem hasL_ok {I : Table} (hI : Plain I) {s : St} {v : Value} {l : List Int} {x : Int} (hl : Sl s 23 1 v (l.map dc)) (hlen : l.length ≤ 1000000) : ∃ v' s', Rets Tryz.prog I 92 #[v, .int .i64 x] s v' s' ∧ (v' = .bool (decide (x ∈ l)) ∧ s' = s) := by
  obtain ⟨a, len, cap, rfl, hn⟩ := hl.isSlice
  rw [List.length_map] at hn
  subst hn
  refine call_of 2 (hI 92 (by decide) (by decide)) Tryz.func92 rfl fb92 rfl ?_
  refine cR ?_
  refine oO rfl (aC ?_)
  refine ops_nil ?_
  refine cw_seq ?_
  refine cR ?_
  refine oO rfl (aC ?_)
  refine ops_nil ?_
  refine cw_block ?_
  refine cw_loop (fun k F s1 => ∃ (G : FF) (i : Nat), F = lay G [(0, .slice a l.length cap), (1, .int .i64 x), (5, .int .i64 (i : Int))] ∧ s1 = s ∧ i ≤ l.length ∧ k = l.length - i ∧ ∀ y ∈ l.take i, y ≠ x) ?_ l.length _ _ ?_
  · rintro k F s1 ⟨G, i, rfl, rfl, hi, rfl, hno⟩
    refine cw_seq ?_
    refine cR ?_
    refine oO rfl (mI rfl ?_)
    refine oO rfl (mS rfl ?_)
    refine oO rfl (op_len un31 rfl rfl rfl ?_)
    refine oO rfl (op_lss rfl rfl (fun h => ?_) (fun h => ?_))
    · refine ops_nil ?_
      refine cT rfl ?_
      refine cw_skip ?_
      refine sN ?_
      refine cw_seq ?_
      refine cw_block ?_
      refine cR ?_
      refine oO rfl (mS rfl ?_)
      refine oO rfl (mI rfl ?_)
      obtain ⟨b, off, c, rfl, hg, hb, hc⟩ := hl.atD (i := (i : Int)) (k := i) rfl (by omega)
      refine oO rfl (op_indexS el31 rfl rfl (by omega) (by omega) ?_)
      refine oO rfl (lO sh23 rfl hg hc ?_)
      refine oO rfl (mI rfl ?_)
      refine oO rfl (op_eql rfl rfl (fun h => ?_) (fun h => ?_))
      · refine ops_nil ?_
        refine cT rfl ?_
        refine cR ?_
        refine oO rfl (aC ?_)
        refine ops_nil ?_
        refine cw_ret ?_
        refine blk_ret ?_
        refine seq_ret ?_
        refine loop_ret ?_
        refine blk_ret ?_
        refine seq_ret ?_
        refine ret_end ?_
        refine end_t ?_
        refine ⟨congrArg Value.bool ?_, rfl⟩
        symm
        rw [decide_eq_true_eq, ← h]
        exact getD_mem (by omega)
      · refine ops_nil ?_
        refine cE rfl ?_
        refine cw_skip ?_
        refine blk_norm ?_
        refine sN ?_
        refine cG ?_
        refine oO rfl (mI rfl ?_)
        refine oO rfl (op_add rfl rfl (by unfold In64; omega) ?_)
        refine oO rfl (aI rfl ?_)
        refine ops_nil ?_
        refine loop_norm ?_
        refine ⟨l.length - (i + 1), by omega, _, i + 1, slots ⟨rfl, rfl, rfl, trivial⟩, rfl, by omega, rfl, ?_⟩
        intro y hy
        rw [List.take_succ_eq_append_getElem (show i < l.length by omega), List.mem_append, List.mem_singleton] at hy
        rcases hy with hy | hy
        · exact hno y hy
        · rw [hy]
          simpa [List.getD_eq_getElem?_getD, List.getElem?_eq_getElem (show i < l.length by omega)] using h
    · refine ops_nil ?_
      refine cE rfl ?_
      refine cw_exit ?_
      refine seq_exit ?_
      refine loop_exit ?_
      refine blk_here ?_
      refine sN ?_
      refine cR ?_
      refine oO rfl (aC ?_)
      refine ops_nil ?_
      refine cw_ret ?_
      refine ret_end ?_
      refine end_t ?_
      refine ⟨congrArg Value.bool ?_, rfl⟩
      symm
      rw [decide_eq_false_iff_not]
      intro hx
      refine hno x ?_ rfl
      rw [List.take_of_length_le (by omega)]
      exact hx
  · exact ⟨_, 0, slots ⟨rfl, rfl, rfl, trivial⟩, rfl, by omega, by omega, (by intro y hy; simp at hy)⟩

set_option maxHeartbeats 4000000 in
set_option maxRecDepth 10000 in
theorem needsR_ok {I : Table} (hI : Plain I) {s : St} {x bad : Int} {v : Value} {js : List (Int × Int)} (hl : Sl s 30 2 v (js.map jc)) (hj : ∀ j ∈ js, joinB j) (hlen : js.length ≤ 16) : ∃ v' s', Rets Tryz.prog I 55 #[.int .i64 x, v, .int .i64 bad] s v' s' ∧ (v' = .bool (needsB x bad 0 js) ∧ s' = s) := by
  obtain ⟨a, len, cap, rfl, hn⟩ := hl.isSlice
  rw [List.length_map] at hn
  subst hn
  refine call_of 3 (hI 55 (by decide) (by decide)) Tryz.func55 rfl fb55 rfl ?_
  refine cR ?_
  refine oO rfl (aC ?_)
  refine ops_nil ?_
  refine cw_seq ?_
  refine cR ?_
  refine oO rfl (aC ?_)
  refine ops_nil ?_
  refine cw_block ?_
  refine cw_loop (fun k F s1 => ∃ (G : FF) (i : Nat), F = lay G [(0, .int .i64 x), (1, .slice a js.length cap), (2, .int .i64 bad), (7, .int .i64 (i : Int))] ∧ s1 = s ∧ i ≤ js.length ∧ k = js.length - i ∧ needsB x bad 0 js = needsB x bad i (js.drop i)) ?_ js.length _ _ ?_
  · rintro k F s1 ⟨G, i, rfl, rfl, hi, rfl, hnd⟩
    refine cw_seq ?_
    refine cR ?_
    refine oO rfl (mI rfl ?_)
    refine oO rfl (mS rfl ?_)
    refine oO rfl (op_len un24 rfl rfl rfl ?_)
    refine oO rfl (op_lss rfl rfl (fun h => ?_) (fun h => ?_))
    · refine oO rfl (mB rfl ?_)
      refine oO rfl (mI rfl ?_)
      refine oO rfl (op_lss rfl rfl (fun h => ?_) (fun h => False.elim (by omega)))
      refine oO rfl (k1B rfl rfl ?_)
      refine ops_nil ?_
      refine cT rfl ?_
      refine cw_skip ?_
      refine sN ?_
      refine cw_seq ?_
      refine cw_block ?_
      refine cR ?_
      have hjm : joinB (js.getD i (0, 0)) := hj _ (getD_mem (by omega))
      have hst : needsB x bad i (js.drop i) = ((bit bad i && (bit x (js.getD i (0, 0)).1.toNat && bit x (js.getD i (0, 0)).2.toNat)) || needsB x bad (i + 1) (js.drop (i + 1))) := by rw [drop_getD (0, 0) (show i < js.length by omega), needsB]
      obtain ⟨b, off, c0, rfl, hg0, hb0, hc0⟩ := hl.atJ (i := (i : Int)) (k := i) rfl (by omega)
      obtain ⟨c, hg, hc1, hc2⟩ := hl.gotJ (k := i) (by omega)
      refine oO rfl (mI rfl ?_)
      refine oO rfl (mI rfl ?_)
      refine oO rfl (oC rfl fc26 rfl ?_)
      obtain ⟨_, _, hr, rfl, rfl⟩ := has_ok (s := _) (x := bad) (k := (i : Int)) hI
      refine ⟨_, _, hr, ?_⟩
      clear hr
      rw [show (decide ((0 : Int) ≤ (i : Int)) && decide ((i : Int) ≤ 15) && bit bad ((i : Int)).toNat) = bit bad i by rw [decide_eq_true (by omega), decide_eq_true (by omega), Int.toNat_natCast]; rfl]
      cases hb1 : bit bad i
      · refine oO rfl (mB rfl ?_)
        refine oF rfl ?_
        refine oF rfl ?_
        refine oF rfl ?_
        refine oF rfl ?_
        refine oF rfl ?_
        refine oF rfl ?_
        refine oF rfl ?_
        refine oO rfl (op_pick0C rfl ?_)
        refine oO rfl (mB rfl ?_)
        refine oF rfl ?_
        refine oF rfl ?_
        refine oF rfl ?_
        refine oF rfl ?_
        refine oF rfl ?_
        refine oF rfl ?_
        refine oF rfl ?_
        refine oO rfl (op_pick0C rfl ?_)
        refine ops_nil ?_
        refine cE rfl ?_
        refine cw_skip ?_
        refine blk_norm ?_
        refine sN ?_
        refine cG ?_
        refine oO rfl (mI rfl ?_)
        refine oO rfl (op_add rfl rfl (by unfold In64; omega) ?_)
        refine oO rfl (aI rfl ?_)
        refine ops_nil ?_
        refine loop_norm ?_
        refine ⟨js.length - (i + 1), by omega, _, i + 1, slots ⟨rfl, rfl, rfl, rfl, trivial⟩, rfl, by omega, rfl, ?_⟩
        rw [hnd, hst]
        (rw [hb1]; rfl)
      · refine oO rfl (mB rfl ?_)
        refine oO rfl (mI rfl ?_)
        refine oO rfl (mS rfl ?_)
        refine oO rfl (mI rfl ?_)
        refine oO rfl (op_indexS el24 rfl rfl (by omega) (by omega) ?_)
        refine oO rfl (op_indexA el30 rfl rfl (by omega) (by omega) ?_)
        refine oO rfl (lO sh3 rfl hg hc1 ?_)
        refine oO rfl (oC rfl fc26 rfl ?_)
        obtain ⟨_, _, hr, rfl, rfl⟩ := has_ok (s := _) (x := x) (k := (js.getD i (0, 0)).1) hI
        refine ⟨_, _, hr, ?_⟩
        clear hr
        rw [show (decide ((0 : Int) ≤ (js.getD i (0, 0)).1) && decide ((js.getD i (0, 0)).1 ≤ 15) && bit x (js.getD i (0, 0)).1.toNat) = bit x (js.getD i (0, 0)).1.toNat by rw [decide_eq_true hjm.1.1, decide_eq_true hjm.1.2]; rfl]
        cases hb2 : bit x (js.getD i (0, 0)).1.toNat
        · refine oO rfl (k1B rfl rfl ?_)
          refine oO rfl (mB rfl ?_)
          refine oF rfl ?_
          refine oF rfl ?_
          refine oF rfl ?_
          refine oF rfl ?_
          refine oF rfl ?_
          refine oF rfl ?_
          refine oF rfl ?_
          refine oO rfl (op_pick0C rfl ?_)
          refine ops_nil ?_
          refine cE rfl ?_
          refine cw_skip ?_
          refine blk_norm ?_
          refine sN ?_
          refine cG ?_
          refine oO rfl (mI rfl ?_)
          refine oO rfl (op_add rfl rfl (by unfold In64; omega) ?_)
          refine oO rfl (aI rfl ?_)
          refine ops_nil ?_
          refine loop_norm ?_
          refine ⟨js.length - (i + 1), by omega, _, i + 1, slots ⟨rfl, rfl, rfl, rfl, trivial⟩, rfl, by omega, rfl, ?_⟩
          rw [hnd, hst]
          (rw [hb1, hb2]; rfl)
        · refine oO rfl (k1B rfl rfl ?_)
          refine oO rfl (mB rfl ?_)
          refine oO rfl (mI rfl ?_)
          refine oO rfl (mS rfl ?_)
          refine oO rfl (mI rfl ?_)
          refine oO rfl (op_indexS el24 rfl rfl (by omega) (by omega) ?_)
          refine oO rfl (op_indexA el30 rfl rfl (by omega) (by omega) ?_)
          refine oO rfl (lO sh3 rfl hg hc2 ?_)
          refine oO rfl (oC rfl fc26 rfl ?_)
          obtain ⟨_, _, hr, rfl, rfl⟩ := has_ok (s := _) (x := x) (k := (js.getD i (0, 0)).2) hI
          refine ⟨_, _, hr, ?_⟩
          clear hr
          rw [show (decide ((0 : Int) ≤ (js.getD i (0, 0)).2) && decide ((js.getD i (0, 0)).2 ≤ 15) && bit x (js.getD i (0, 0)).2.toNat) = bit x (js.getD i (0, 0)).2.toNat by rw [decide_eq_true hjm.2.1, decide_eq_true hjm.2.2]; rfl]
          cases hb3 : bit x (js.getD i (0, 0)).2.toNat
          · refine oO rfl (k1B rfl rfl ?_)
            refine ops_nil ?_
            refine cE rfl ?_
            refine cw_skip ?_
            refine blk_norm ?_
            refine sN ?_
            refine cG ?_
            refine oO rfl (mI rfl ?_)
            refine oO rfl (op_add rfl rfl (by unfold In64; omega) ?_)
            refine oO rfl (aI rfl ?_)
            refine ops_nil ?_
            refine loop_norm ?_
            refine ⟨js.length - (i + 1), by omega, _, i + 1, slots ⟨rfl, rfl, rfl, rfl, trivial⟩, rfl, by omega, rfl, ?_⟩
            rw [hnd, hst]
            (rw [hb1, hb2, hb3]; rfl)
          · refine oO rfl (k1B rfl rfl ?_)
            refine ops_nil ?_
            refine cT rfl ?_
            refine cR ?_
            refine oO rfl (aC ?_)
            refine ops_nil ?_
            refine cw_ret ?_
            refine blk_ret ?_
            refine seq_ret ?_
            refine loop_ret ?_
            refine blk_ret ?_
            refine seq_ret ?_
            refine ret_end ?_
            refine end_t ?_
            refine ⟨congrArg Value.bool ?_, rfl⟩
            rw [hnd, hst]
            (rw [hb1, hb2, hb3]; rfl)
    · refine oO rfl (mB rfl ?_)
      refine oF rfl ?_
      refine oF rfl ?_
      refine oO rfl (op_pick0C rfl ?_)
      refine ops_nil ?_
      refine cE rfl ?_
      refine cw_exit ?_
      refine seq_exit ?_
      refine loop_exit ?_
      refine blk_here ?_
      refine sN ?_
      refine cR ?_
      refine oO rfl (aC ?_)
      refine ops_nil ?_
      refine cw_ret ?_
      refine ret_end ?_
      refine end_t ?_
      refine ⟨congrArg Value.bool ?_, rfl⟩
      rw [hnd, List.drop_eq_nil_of_le (by omega)]
      rfl
  · exact ⟨_, 0, slots ⟨rfl, rfl, rfl, rfl, trivial⟩, rfl, by omega, by omega, rfl⟩

set_option maxHeartbeats 4000000 in
set_option maxRecDepth 10000 in
theorem rest_ok {I : Table} (hI : Plain I) {s : St} (hf : Fine s) (hroom : s.next + 1 ≤ limit) {x : Sp} : ∃ v s', Rets Tryz.prog I 36 #[.agg ⟨x.cells⟩] s v s' ∧ (v = .int .i64 (andNotI x.w x.p) ∧ HL [] s s' [] 1) := by
  have H := hf.hl
  refine call_of 1 (hI 36 (by decide) (by decide)) Tryz.func36 rfl fb36 rfl ?_
  refine cR ?_
  refine oO rfl (op_boxA H rfl (by omega) (fun b1 s1 H => ?_))
  refine oO rfl (aC ?_)
  refine ops_nil ?_
  refine cR ?_
  refine oO rfl (fA of62_0 rfl ?_)
  refine oO rfl (lO sh23 rfl (by exact H.own0) rfl ?_)
  refine oO rfl (fA of62_1 rfl ?_)
  refine oO rfl (lO sh23 rfl (by exact H.own0) rfl ?_)
  refine oO rfl (op_andNot rfl rfl ?_)
  refine oO rfl (aI rfl ?_)
  refine ops_nil ?_
  refine cw_ret ?_
  refine ret_end ?_
  refine end_t ?_
  exact ⟨rfl, H.drop0⟩

set_option maxHeartbeats 4000000 in
set_option maxRecDepth 10000 in
theorem add_ok {I : Table} (hI : Plain I) {s : St} (hf : Fine s) {v : Value} {l : List Int} {x : Int} (hl : Sl s 23 1 v (l.map dc)) (hlen : l.length ≤ 1000000) (hroom : s.next + (4 * l.length + 2) ≤ limit) : ∃ v' s', Rets Tryz.prog I 93 #[v, .int .i64 x] s v' s' ∧ (∃ (D : Hp') (so : Slc), v' = so.v ∧ HL [] s s' D (4 * l.length + 2) ∧ SlG D 23 1 so.v ((addZ l x).map dc)) := by
  have H := hf.hl
  obtain ⟨a, len, cap, rfl, hn⟩ := hl.isSlice
  rw [List.length_map] at hn
  subst hn
  refine call_of 2 (hI 93 (by decide) (by decide)) Tryz.func93 rfl fb93 rfl ?_
  refine cR ?_
  refine oO rfl (aC ?_)
  refine ops_nil ?_
  refine cR ?_
  refine oO rfl (aC ?_)
  refine ops_nil ?_
  refine cw_seq ?_
  refine cR ?_
  refine oO rfl (aC ?_)
  refine ops_nil ?_
  refine cw_block ?_
  refine cw_loop (fun k F s1 => ∃ (G : FF) (i : Nat) (D1 : Hp') (so : Slc) (out : List Int), F = lay G [(0, .slice a l.length cap), (1, .int .i64 x), (5, so.v), (6, .int .i64 (i : Int))] ∧ HL [] s s1 D1 (0 + 2 * i) ∧ Own 23 1 D1 so.v (ints out) out.length ∧ out = (l.take i).filter (fun y => decide (y < x)) ∧ i ≤ l.length ∧ k = l.length - i) ?_ l.length _ _ ?_
  · rintro k F s1 ⟨G, i, D1, so, out, rfl, H, ho, hout, hi, rfl⟩
    have hol : out.length ≤ 1000001 + i := by rw [hout]; have := List.length_filter_le (fun y => decide (y < x)) (l.take i); simp at this; omega
    refine cw_seq ?_
    refine cR ?_
    refine oO rfl (mI rfl ?_)
    refine oO rfl (mS rfl ?_)
    refine oO rfl (op_len un31 rfl rfl rfl ?_)
    refine oO rfl (op_lss rfl rfl (fun h => ?_) (fun h => ?_))
    · refine ops_nil ?_
      refine cT rfl ?_
      refine cw_skip ?_
      refine sN ?_
      refine cw_seq ?_
      refine cw_block ?_
      refine cR ?_
      refine oO rfl (mS rfl ?_)
      refine oO rfl (mI rfl ?_)
      obtain ⟨b, off, c, rfl, hg, hb, hc⟩ := (hl.kept H).atD (i := (i : Int)) (k := i) rfl (by omega)
      refine oO rfl (op_indexS el31 rfl rfl (by omega) (by omega) ?_)
      refine oO rfl (lO sh23 rfl hg hc ?_)
      refine oO rfl (mI rfl ?_)
      refine oO rfl (op_lss rfl rfl (fun h => ?_) (fun h => ?_))
      · refine ops_nil ?_
        refine cT rfl ?_
        refine cG ?_
        refine oO rfl (mS rfl ?_)
        refine oO rfl (mS rfl ?_)
        refine oO rfl (mI rfl ?_)
        refine oO rfl (op_indexS el31 rfl rfl (by omega) (by omega) ?_)
        refine oO rfl (lO sh23 rfl hg hc ?_)
        refine oO rfl (op_buildSlice (c := [.int _ _]) H sl31 rfl rfl (by omega) (fun b25 s1 H => ?_))
        have hgt := H.own0
        have H := HL.swap (A := []) (B := D1) H.drop0
        refine oO rfl (op_appendOwn H ho sl31 un31 rfl rfl rfl (elems_all hgt rfl) (by decide) rfl rfl (by have := hol; omega) (by omega) (fun b6 s6 H ho => ?_))
        refine oO rfl (aS rfl ?_)
        refine ops_nil ?_
        refine blk_norm ?_
        refine sN ?_
        refine cG ?_
        refine oO rfl (mI rfl ?_)
        refine oO rfl (op_add rfl rfl (by unfold In64; omega) ?_)
        refine oO rfl (aI rfl ?_)
        refine ops_nil ?_
        refine loop_norm ?_
        refine ⟨l.length - (i + 1), by omega, _, i + 1, [(b6, .cells (ints out ++ [.int .i64 (l.getD i 0)]) 23)], ⟨some ⟨b6, 0, none⟩, out.length + 1, 2 * (out.length + 1) + 1⟩, out ++ [l.getD i 0], slots ⟨rfl, rfl, rfl, rfl, trivial⟩, H.up (by omega), ?_, ?_, by omega, rfl⟩
        · rw [ints_append, List.length_append]
          exact ho
        · rw [filt_yes (show i < l.length by omega) (decide_eq_true h), hout]
      · refine ops_nil ?_
        refine cE rfl ?_
        refine cw_skip ?_
        refine blk_norm ?_
        refine sN ?_
        refine cG ?_
        refine oO rfl (mI rfl ?_)
        refine oO rfl (op_add rfl rfl (by unfold In64; omega) ?_)
        refine oO rfl (aI rfl ?_)
        refine ops_nil ?_
        refine loop_norm ?_
        refine ⟨l.length - (i + 1), by omega, _, i + 1, D1, so, out, slots ⟨rfl, rfl, rfl, rfl, trivial⟩, H.up (by omega), ho, ?_, by omega, rfl⟩
        rw [filt_no (show i < l.length by omega) (decide_eq_false h), hout]
    · refine ops_nil ?_
      refine cE rfl ?_
      refine cw_exit ?_
      refine seq_exit ?_
      refine loop_exit ?_
      refine blk_here ?_
      refine sN ?_
      refine cR ?_
      refine oO rfl (mS rfl ?_)
      refine oO rfl (mI rfl ?_)
      refine oO rfl (op_buildSlice (c := [.int _ _]) H sl31 rfl rfl (by omega) (fun b29 s2 H => ?_))
      have hgt := H.own0
      have H := HL.swap (A := []) (B := D1) H.drop0
      refine oO rfl (op_appendOwn H ho sl31 un31 rfl rfl rfl (elems_all hgt rfl) (by decide) rfl rfl (by have := hol; omega) (by omega) (fun b7 s7 H ho => ?_))
      refine oO rfl (aS rfl ?_)
      refine ops_nil ?_
      refine cw_seq ?_
      refine cR ?_
      refine oO rfl (aC ?_)
      refine ops_nil ?_
      refine cw_block ?_
      refine cw_loop (fun k F s1 => ∃ (G : FF) (i : Nat) (D1 : Hp') (so : Slc) (out : List Int), F = lay G [(0, .slice a l.length cap), (1, .int .i64 x), (5, so.v), (7, .int .i64 (i : Int))] ∧ HL [] s s1 D1 (2 * l.length + 2 + 2 * i) ∧ Own 23 1 D1 so.v (ints out) out.length ∧ out = l.filter (fun y => decide (y < x)) ++ [x] ++ (l.take i).filter (fun y => decide (x < y)) ∧ i ≤ l.length ∧ k = l.length - i) ?_ l.length _ _ ?_
      · rintro k F s1 ⟨G, i, D1, so, out, rfl, H, ho, hout, hi, rfl⟩
        have hol : out.length ≤ 1000001 + i := by rw [hout]; have := List.length_filter_le (fun y => decide (y < x)) l; have := List.length_filter_le (fun y => decide (x < y)) (l.take i); simp only [List.length_append, List.length_singleton, List.length_take] at *; omega
        refine cw_seq ?_
        refine cR ?_
        refine oO rfl (mI rfl ?_)
        refine oO rfl (mS rfl ?_)
        refine oO rfl (op_len un31 rfl rfl rfl ?_)
        refine oO rfl (op_lss rfl rfl (fun h => ?_) (fun h => ?_))
        · refine ops_nil ?_
          refine cT rfl ?_
          refine cw_skip ?_
          refine sN ?_
          refine cw_seq ?_
          refine cw_block ?_
          refine cR ?_
          refine oO rfl (mS rfl ?_)
          refine oO rfl (mI rfl ?_)
          obtain ⟨b, off, c, rfl, hg, hb, hc⟩ := (hl.kept H).atD (i := (i : Int)) (k := i) rfl (by omega)
          refine oO rfl (op_indexS el31 rfl rfl (by omega) (by omega) ?_)
          refine oO rfl (lO sh23 rfl hg hc ?_)
          refine oO rfl (mI rfl ?_)
          refine oO rfl (op_gtr rfl rfl (fun h => ?_) (fun h => ?_))
          · refine ops_nil ?_
            refine cT rfl ?_
            refine cG ?_
            refine oO rfl (mS rfl ?_)
            refine oO rfl (mS rfl ?_)
            refine oO rfl (mI rfl ?_)
            refine oO rfl (op_indexS el31 rfl rfl (by omega) (by omega) ?_)
            refine oO rfl (lO sh23 rfl hg hc ?_)
            refine oO rfl (op_buildSlice (c := [.int _ _]) H sl31 rfl rfl (by omega) (fun b48 s3 H => ?_))
            have hgt := H.own0
            have H := HL.swap (A := []) (B := D1) H.drop0
            refine oO rfl (op_appendOwn H ho sl31 un31 rfl rfl rfl (elems_all hgt rfl) (by decide) rfl rfl (by have := hol; omega) (by omega) (fun b12 s12 H ho => ?_))
            refine oO rfl (aS rfl ?_)
            refine ops_nil ?_
            refine blk_norm ?_
            refine sN ?_
            refine cG ?_
            refine oO rfl (mI rfl ?_)
            refine oO rfl (op_add rfl rfl (by unfold In64; omega) ?_)
            refine oO rfl (aI rfl ?_)
            refine ops_nil ?_
            refine loop_norm ?_
            refine ⟨l.length - (i + 1), by omega, _, i + 1, [(b12, .cells (ints out ++ [.int .i64 (l.getD i 0)]) 23)], ⟨some ⟨b12, 0, none⟩, out.length + 1, 2 * (out.length + 1) + 1⟩, out ++ [l.getD i 0], slots ⟨rfl, rfl, rfl, rfl, trivial⟩, H.up (by omega), ?_, ?_, by omega, rfl⟩
            · rw [ints_append, List.length_append]
              exact ho
            · rw [filt_yes (show i < l.length by omega) (decide_eq_true h), hout, List.append_assoc _ _ [l.getD i 0]]
          · refine ops_nil ?_
            refine cE rfl ?_
            refine cw_skip ?_
            refine blk_norm ?_
            refine sN ?_
            refine cG ?_
            refine oO rfl (mI rfl ?_)
            refine oO rfl (op_add rfl rfl (by unfold In64; omega) ?_)
            refine oO rfl (aI rfl ?_)
            refine ops_nil ?_
            refine loop_norm ?_
            refine ⟨l.length - (i + 1), by omega, _, i + 1, D1, so, out, slots ⟨rfl, rfl, rfl, rfl, trivial⟩, H.up (by omega), ho, ?_, by omega, rfl⟩
            rw [filt_no (show i < l.length by omega) (decide_eq_false h), hout]
        · refine ops_nil ?_
          refine cE rfl ?_
          refine cw_exit ?_
          refine seq_exit ?_
          refine loop_exit ?_
          refine blk_here ?_
          refine sN ?_
          refine cR ?_
          refine oO rfl (mS rfl ?_)
          refine oO rfl (aS rfl ?_)
          refine ops_nil ?_
          refine cw_ret ?_
          refine ret_end ?_
          refine end_t ?_
          refine ⟨D1, so, rfl, H.up (by omega), ?_⟩
          have hi2 : i = l.length := by omega
          have he : out = addZ l x := by rw [hout, hi2, List.take_length]; unfold addZ; simp
          rw [← he]
          exact Own.dcs ho
      · refine ⟨_, 0, [(b7, .cells (ints out ++ [.int .i64 x]) 23)], ⟨some ⟨b7, 0, none⟩, out.length + 1, 2 * (out.length + 1) + 1⟩, out ++ [x], slots ⟨rfl, rfl, rfl, rfl, trivial⟩, H.up (by omega), ?_, ?_, by omega, by omega⟩
        · rw [ints_append, List.length_append]
          exact ho
        · have hi2 : i = l.length := by omega
          rw [hout, hi2, List.take_length, List.take_zero, List.filter_nil, List.append_nil]
  · exact ⟨_, 0, [], ⟨none, 0, 0⟩, [], slots ⟨rfl, rfl, rfl, rfl, trivial⟩, H, .nil, by simp, by omega, by omega⟩

end Go.Proofs.YtdejleegamcioaaGreat
