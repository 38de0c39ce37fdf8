/- The reference of cleanings: the least one. -/
/- The reference of cleanings: what Least returns. -/
/- undo.Least for arguments that are not proper. -/
/- undo.Least, for proper arguments: what it returns. -/
import Derived.Test.YtdejleegamcioaaGreatL20
namespace Go.Proofs.YtdejleegamcioaaGreat
open Go Go.M

theorem fb47 : funcB Tryz.f47 (Tryz.f47.body.getD .skip) 3 = true := by kernel_rfl
theorem fc47 : funcF Tryz.prog 47 = true := by kernel_rfl

end Go.Proofs.YtdejleegamcioaaGreat
namespace Go.M
section
variable {P : Program} {I : Table} {F : FF} {s : St} {Q : FF → St → Prop} {d : Option Tmp} {ty : TypeId} {pos : String} {af : Array Edge} {g : Option (Nat × Bool)} {W : List Nat} {s0 : St} {L : Hp'} {n : Nat}
/-- Elements, or none, onto a slice that is full. -/
theorem op_appendAny {ag : Array Operand} {ts : Array TypeId} {t t2 e e2 : TypeId} {tr : List TypeId} {x y : Operand} {sz by_ m b len cap : Nat} {z l c : List Value} (H : HL W s0 s ((b, .cells c e) :: L) n) (hs : sliceF P t = some (e, sz, by_, z)) (hu2 : P.underlying t2 = some (.slice e2))
    (ht : ts.toList = t :: t2 :: tr) (ha : ag.toList = [x, y]) (hx : evalF F x = .slice (some ⟨b, 0, none⟩) len cap) (he : Elems s sz (evalF F y) m l) (hlen : len * sz = c.length) (hcap : cap / 2 = len) (hp : l.all plainCell = true) (hl : l.length = m * sz) (hb : (len + m) * (by_ + 1) ≤ 1073741824) (hr : s0.next + n < limit)
    (k : ∀ b' cap' s', HL W s0 s' ((b', .cells (c ++ l) e) :: L) (n + 1) → cap' / 2 = len + m → Q (upd F d (.slice (some ⟨b', 0, none⟩) (len + m) cap')) s') : OpW P I ⟨d, .call ⟨.builtin .append, ag, ts⟩, ty, pos, af, g⟩ F s Q := by
  by_cases hm : m = 0
  · subst hm
    have hl0 : l = [] := List.eq_nil_of_length_eq_zero (by omega)
    subst hl0
    refine op_appendNone' H hs hu2 ht ha hx he (by omega) (by omega) (by omega) fun s' H' => ?_
    have := k b cap s' (by rw [List.append_nil]; exact H'.up (by omega)) (by omega)
    exact this
  · exact op_append0 H hs hu2 ht ha hx he hlen (by omega) hp hl hb hr fun b' s' H' => k b' _ s' H' (by omega)
/-- One block of ours alone, while others may not be written. -/
theorem HL.only {b : Nat} {o : MObj} (H : HL W s0 s ((b, o) :: L) n) {X : List Nat} (hX : ∀ p, p ∈ X → p < s.next ∧ p ≠ b) : HL [b] { s with prot := X ++ s.prot } { s with prot := X ++ s.prot } [(b, o)] 0 := by
  have hf := H.fine
  have ho := H.own (b, o) (by simp)
  refine ⟨rfl, rfl, hf.wfb, fun p hp => ?_, Nat.le_refl _, Nat.le_refl _, fun p hp => ?_, by simp, fun _ _ _ => rfl⟩
  · rcases List.mem_append.mp hp with hp | hp
    · exact (hX p hp).1
    · exact hf.wfp p hp
  · rw [List.mem_singleton] at hp
    subst hp
    refine ⟨ho.1, ho.2.1, ?_, .inr (by simp)⟩
    have hm := ho.2.2.1
    simp only [St.may, Bool.and_eq_true, Bool.not_eq_true', Bool.eq_false_iff, ne_eq, List.any_eq_true, not_exists, not_and] at hm ⊢
    refine ⟨hm.1, fun p hp he => ?_⟩
    rcases List.mem_append.mp hp with hp | hp
    · exact (hX p hp).2 (Nat.eq_of_beq_eq_true he).symm
    · exact hm.2 p hp he
end
end Go.M
namespace Go.Proofs.YtdejleegamcioaaGreat
open Go Go.M
theorem spl_plain (l : List Sp) : ((l.map Sp.cells).flatten).all Go.M.plainCell = true := by
  induction l with
  | nil => rfl
  | cons x l ih => rw [List.map_cons, List.flatten_cons, List.all_append, ih]; rfl
theorem spl_len (l : List Sp) : ((l.map Sp.cells).flatten).length = l.length * 10 := by
  induction l with
  | nil => rfl
  | cons x l ih => rw [List.map_cons, List.flatten_cons, List.length_append, ih, List.length_cons]; show 10 + _ = _; omega
theorem Sl.elemsP {s : St} {v : Value} {l : List Sp} (h : Sl s 62 10 v (l.map Sp.cells)) : Elems s 10 v l.length ((l.map Sp.cells).flatten) := by
  have := Sl.elems h (by intro x hx; obtain ⟨y, _, rfl⟩ := List.mem_map.mp hx; rfl) (by decide)
  rwa [List.length_map] at this
theorem spsGP {b cap : Nat} {l : List Sp} (hcap : l.length ≤ cap / 2) : SlG [(b, .cells ((l.map Sp.cells).flatten) 62)] 62 10 (.slice (some ⟨b, 0, none⟩) l.length cap) (l.map Sp.cells) := by
  refine SlG.block b 0 cap ((l.map Sp.cells).flatten) (by simp) (by simp) (by simpa using hcap) fun k hk => ?_
  exact flat_get (by intro x hx; obtain ⟨y, _, rfl⟩ := List.mem_map.mp hx; rfl) hk
theorem Fine.fresh {s : St} (h : Fine s) : Fine { s with bar := s.next } := ⟨Nat.le_refl _, h.wfp⟩
/-- The levels of all sets that come about. -/
def LevS (s : St) (js : List (Int × Int)) (bad : Int) (may : List Sp) (ks : List Int) (a1 a2 : Option Addr) (c1 c2 : Nat) : Prop :=
  Sl s 23 1 (.slice a1 ks.length c1) (ks.map dc) ∧ Sl s 3 1 (.slice a2 (ks.map (fun q => (bb js bad may q).1)).length c2) ((ks.map (fun q => (bb js bad may q).1)).map dc)
theorem LevS.heap {s s' : St} {js : List (Int × Int)} {bad : Int} {may : List Sp} {ks : List Int} {a1 a2 : Option Addr} {c1 c2 : Nat} (h : LevS s js bad may ks a1 a2 c1 c2) (hh : s'.heap = s.heap) (hn : s'.next = s.next) : LevS s' js bad may ks a1 a2 c1 c2 := ⟨h.1.heap hh hn, h.2.heap hh hn⟩
theorem LevS.kept {s s' : St} {js : List (Int × Int)} {bad : Int} {may : List Sp} {ks : List Int} {a1 a2 : Option Addr} {c1 c2 : Nat} {L : Hp'} {n : Nat} (h : LevS s js bad may ks a1 a2 c1 c2) (H : HL [] s s' L n) : LevS s' js bad may ks a1 a2 c1 c2 := ⟨h.1.kept H, h.2.kept H⟩
/-- What is asked of the recursion, for sets less than f. -/
def ClC (I : Table) (js : List (Int × Int)) (bad : Int) (may : List Sp) (ks : List Int) (ma : Option Addr) (mcp : Nat) (a1 a2 : Option Addr) (c1 c2 : Nat) (f : Nat) : Prop :=
  ∀ (S : Int), 0 < S → S.toNat < f → S ∈ ks → (bb js bad may S).1 < 65536 → ∀ (s : St), Fine s → Sl s 62 10 (.slice ma may.length mcp) (may.map Sp.cells) → LevS s js bad may ks a1 a2 c1 c2 → s.next + 100 * (2 * (bb js bad may S).1.toNat + 1) ≤ limit →
    ∃ v' s', Rets Tryz.prog I 47 #[.int .i64 S, .slice ma may.length mcp, .agg ⟨[.slice a1 ks.length c1, .slice a2 (ks.map (fun q => (bb js bad may q).1)).length c2]⟩] s v' s' ∧ (∃ (D : Hp') (so : Slc), v' = so.v ∧ HL [] s s' D (100 * (2 * (bb js bad may S).1.toNat + 1)) ∧ SlG D 62 10 so.v ((tk js bad may f S).map Sp.cells))

set_option maxHeartbeats 4000000 in
set_option maxRecDepth 10000 in
theorem clean_step {I : Table} (hI : Plain I) {js : List (Int × Int)} {bad : Int} {may : List Sp} (hm : MayOK may) (hml : may.length ≤ 15) {ks : List Int} (hkl : ks.length ≤ 65535) (hcl : Clo js bad may ks) {ma : Option Addr} {mcp : Nat} {a1 a2 : Option Addr} {c1 c2 : Nat} {f : Nat} (ih : ClC I js bad may ks ma mcp a1 a2 c1 c2 f) : ClC I js bad may ks ma mcp a1 a2 c1 c2 (f + 1) := by
  intro S hS hSf hSk hfin s hf hM hL hroom
  have H := hf.hl
  have hrg := bb_range (js := js) (bad := bad) (may := may) S
  refine call_of 3 (hI 47 (by decide) (by decide)) Tryz.func47 rfl fb47 rfl ?_
  refine cR ?_
  refine oO rfl (op_boxA H rfl (by omega) (fun b5 s1 H => ?_))
  refine oO rfl (aC ?_)
  refine ops_nil ?_
  refine cR ?_
  refine oO rfl (lN sh40 rfl (by exact H.own0) rfl ?_)
  refine oO rfl (mI rfl ?_)
  refine oO rfl (oC rfl fc46 rfl ?_)
  obtain ⟨_, s9, hr, rfl, Hc⟩ := atR_ok (x := S) hI H.fine (hL.kept H).1 (hL.kept H).2 (by omega) (by have := H.most; omega)
  refine ⟨_, _, hr, ?_⟩
  clear hr
  have H := H.call0 Hc
  clear Hc
  have ha0 : atP ks (ks.map (fun q => (bb js bad may q).1)) S = (bb js bad may S).1 := atP_map hSk
  rw [ha0]
  refine oO rfl (aI rfl ?_)
  refine ops_nil ?_
  refine cw_seq ?_
  refine cR ?_
  refine oO rfl (aC ?_)
  refine ops_nil ?_
  refine cw_block ?_
  refine cw_loop (fun k F s1 => ∃ (G : FF) (q : Nat), F = lay G [(0, .int .i64 S), (1, .slice ma may.length mcp), (5, ptr b5), (7, .int .i64 (bb js bad may S).1), (8, .int .i64 (q : Int))] ∧ HL [] s s1 [(b5, .cells [.slice a1 ks.length c1, .slice a2 (ks.map (fun q => (bb js bad may q).1)).length c2] 40)] (2 + 5 * q) ∧ (∀ m ∈ may.take q, m.w = S → 1 + (bb js bad may m.p).1 + (bb js bad may (andNotI S m.p)).1 ≠ (bb js bad may S).1) ∧ q ≤ may.length ∧ k = may.length - q) ?_ may.length _ _ ?_
  · rintro k F s1 ⟨G, q, rfl, H, hno, hq, rfl⟩
    refine cw_seq ?_
    refine cR ?_
    refine oO rfl (mI rfl ?_)
    refine oO rfl (mS rfl ?_)
    refine oO rfl (op_len un25 rfl rfl rfl ?_)
    refine oO rfl (op_lss rfl rfl (fun h => ?_) (fun h => ?_))
    · refine oO rfl (mB rfl ?_)
      refine oO rfl (mI rfl ?_)
      refine oO rfl (op_gtr rfl rfl (fun h => ?_) (fun h => ?_))
      · refine oO rfl (k1B rfl rfl ?_)
        refine ops_nil ?_
        refine cT rfl ?_
        refine cw_skip ?_
        refine sN ?_
        refine cw_seq ?_
        refine cw_block ?_
        refine cR ?_
        refine oO rfl (mS rfl ?_)
        refine oO rfl (mI rfl ?_)
        obtain ⟨bm, ofm, cm0, hem, hgm0, hbm, hcm0⟩ := (hM.kept H).atS (i := (q : Int)) (k := q) rfl (by omega)
        cases hem
        refine oO rfl (op_indexS el25 rfl rfl (by omega) (by omega) ?_)
        refine oO rfl (lN sh62 rfl hgm0 hcm0 ?_)
        refine oO rfl (op_alloc H zf62 (by omega) (fun b9 s2 H => ?_))
        refine oO rfl (op_store0 (vs := [.int _ _, .int _ _, .bool _, .slice _ _ _, .bool _, .slice _ _ _, .bool _, .slice _ _ _, .bool _, .slice _ _ _]) H sz62 rfl rfl rfl rfl rfl (by omega) (fun s3 H => ?_))
        refine ops_nil ?_
        refine cw_seq ?_
        refine cR ?_
        refine oO rfl (fA of62_0 rfl ?_)
        refine oO rfl (lO sh23 rfl (by exact H.own0) rfl ?_)
        refine oO rfl (mI rfl ?_)
        refine oO rfl (op_neq rfl rfl (fun h => ?_) (fun h => ?_))
        · refine ops_nil ?_
          refine cT rfl ?_
          refine cw_exit ?_
          refine seq_exit ?_
          refine blk_here ?_
          refine sN ?_
          refine cG ?_
          refine oO rfl (mI rfl ?_)
          refine oO rfl (op_add rfl rfl (by unfold In64; omega) ?_)
          refine oO rfl (aI rfl ?_)
          refine ops_nil ?_
          refine loop_norm ?_
          refine ⟨may.length - (q + 1), by omega, _, q + 1, slots ⟨rfl, rfl, rfl, rfl, rfl, trivial⟩, H.drop0.up (by omega), ?_, by omega, rfl⟩
          intro m hmm hmw
          rcases mem_take_succ (show q < may.length by omega) hmm with hmm | hmm
          · exact hno m hmm hmw
          · subst hmm; exact absurd hmw h
        · refine ops_nil ?_
          refine cE rfl ?_
          refine cw_skip ?_
          refine sN ?_
          have hxS : (may.getD q default).w = S := by simpa using h
          obtain ⟨hsp, hpb⟩ := hm (may.getD q default) (getD_mem (by omega))
          obtain ⟨hf1, hf2, hf3, hf4, hf5, hf6⟩ := split_facts hsp hpb
          have hpos : 0 < (bb js bad may S).1 := by omega
          have hnd : needsB S bad 0 js = true := by
            cases hn : needsB S bad 0 js with
            | true => rfl
            | false => have e := bb_num (js := js) (bad := bad) hm hS; rw [if_neg (by rw [hn]; simp)] at e; omega
          obtain ⟨hp1, hp2⟩ := hcl (may.getD q default) (getD_mem (by omega)) (by rw [hxS]; exact hSk) (by rw [hxS]; exact hnd)
          have hr1 := bb_range (js := js) (bad := bad) (may := may) (may.getD q default).p
          have hr2 := bb_range (js := js) (bad := bad) (may := may) (andNotI (may.getD q default).w (may.getD q default).p)
          refine cR ?_
          refine oO rfl (lN sh40 rfl (by exact H.own1) rfl ?_)
          refine oO rfl (fA of62_1 rfl ?_)
          refine oO rfl (lO sh23 rfl (by exact H.own0) rfl ?_)
          refine oO rfl (oC rfl fc46 rfl ?_)
          obtain ⟨_, s9, hr, rfl, Hc⟩ := atR_ok (x := (may.getD q default).p) hI H.fine (hL.kept H).1 (hL.kept H).2 (by omega) (by have := H.most; omega)
          refine ⟨_, _, hr, ?_⟩
          clear hr
          have H := H.call0 Hc
          clear Hc
          have ha1 : atP ks (ks.map (fun q => (bb js bad may q).1)) (may.getD q default).p = (bb js bad may (may.getD q default).p).1 := atP_map hp1
          rw [ha1]
          refine oO rfl (aI rfl ?_)
          refine ops_nil ?_
          refine cw_dseq [⟨0, 0, .light, [1]⟩, ⟨1, 0, .light, [0]⟩, ⟨2, 2, .whole, [0]⟩, ⟨3, 7, .whole, []⟩, ⟨4, 15, .light, []⟩] (by kernel_rfl) (by kernel_rfl) ?_
          refine dr_loadN rfl rfl sh40 rfl (by exact H.own1) (by exact H.lim1 (by omega)) rfl ?_
          refine dr_loadN rfl rfl sh62 rfl (by exact H.own0) (by exact H.lim0 (by omega)) rfl ?_
          refine dW rfl rfl (oC rfl fc36 rfl ?_)
          obtain ⟨_, s9, hr, rfl, Hc⟩ := rest_ok (x := (may.getD q default)) hI (Fine.narrow (X := [b5]) H.fine (by intro p hp; simp only [List.mem_cons, List.not_mem_nil, or_false] at hp; subst hp; exact H.lt1)) (by have hmo := H.most; (try simp only at hmo); show _ + _ ≤ _; (try simp only); omega)
          refine ⟨_, _, hr, ?_⟩
          clear hr
          have H := H.call0 (HL.wider H.fine (Nat.le_refl _) (fun _ h => List.mem_append_right _ h) Hc)
          clear Hc
          refine dW rfl rfl (oC rfl fc46 rfl ?_)
          obtain ⟨_, s9, hr, rfl, Hc⟩ := atR_ok (x := (andNotI (may.getD q default).w (may.getD q default).p)) hI H.fine (hL.kept H).1 (hL.kept H).2 (by omega) (by have hmo := H.most; (try simp only at hmo); show _ + _ ≤ _; (try simp only); omega)
          refine ⟨_, _, hr, ?_⟩
          clear hr
          have H := H.call0 (HL.wider H.fine (Nat.le_refl _) (fun _ h => h) Hc)
          clear Hc
          have ha2 : atP ks (ks.map (fun q => (bb js bad may q).1)) (andNotI (may.getD q default).w (may.getD q default).p) = (bb js bad may (andNotI (may.getD q default).w (may.getD q default).p)).1 := atP_map hp2
          rw [ha2]
          refine dL rfl rfl (aI rfl ⟨rfl, ?_⟩)
          refine draw_nil ?_
          refine cR ?_
          refine oO rfl (mI rfl ?_)
          refine oO rfl (op_add rfl rfl (by unfold In64; omega) ?_)
          refine oO rfl (mI rfl ?_)
          refine oO rfl (op_add rfl rfl (by unfold In64; omega) ?_)
          refine oO rfl (mI rfl ?_)
          refine oO rfl (op_eql rfl rfl (fun h => ?_) (fun h => ?_))
          · refine ops_nil ?_
            refine cT rfl ?_
            have hsum : 1 + (bb js bad may (may.getD q default).p).1 + (bb js bad may (andNotI (may.getD q default).w (may.getD q default).p)).1 = (bb js bad may S).1 := h
            have hfd : (may.getD q default) = (bb js bad may S).2 := bb_found hm hS hpos hfin (by omega) hxS (by rw [hxS] at hsum; exact hsum) hno
            refine cw_dseq [⟨0, 0, .light, [3, 5, 8, 11]⟩, ⟨2, 0, .light, [0, 5, 8, 11]⟩, ⟨3, 4, .light, [0, 5, 8, 11]⟩, ⟨4, 0, .light, [0, 3, 5, 8, 11]⟩, ⟨5, 0, .light, [0, 3, 8, 11]⟩, ⟨8, 0, .light, [0, 3, 5, 11]⟩, ⟨10, 0, .light, [0, 3, 5, 8, 11]⟩, ⟨11, 0, .light, [0, 3, 5, 8]⟩, ⟨1, 1, .fresh, [3, 5, 8, 11]⟩, ⟨6, 60, .fresh, [0, 8, 11]⟩, ⟨7, 127, .whole, [8, 11]⟩, ⟨9, 511, .whole, [11]⟩, ⟨12, 4095, .whole, []⟩, ⟨13, 8191, .whole, []⟩, ⟨14, 16383, .light, []⟩] (by kernel_rfl) (by kernel_rfl) ?_
            refine dr_loadN rfl rfl sh62 rfl (by exact H.own0) (by exact H.lim0 (by omega)) rfl ?_
            refine dL rfl rfl (fA of62_1 rfl ⟨rfl, ?_⟩)
            refine dr_load1 rfl rfl sh23 rfl (by exact H.own0) (by exact H.lim0 (by omega)) rfl ?_
            refine dL rfl rfl (mS rfl ⟨rfl, ?_⟩)
            refine dr_loadN rfl rfl sh40 rfl (by exact H.own1) (by exact H.lim1 (by omega)) rfl ?_
            refine dr_loadN rfl rfl sh62 rfl (by exact H.own0) (by exact H.lim0 (by omega)) rfl ?_
            refine dL rfl rfl (mS rfl ⟨rfl, ?_⟩)
            refine dr_loadN rfl rfl sh40 rfl (by exact H.own1) (by exact H.lim1 (by omega)) rfl ?_
            have Hn := (Fine.fresh H.fine).hl
            refine draw_fresh rfl rfl (op_buildSlice (c := [.int _ _, .int _ _, .bool _, .slice _ _ _, .bool _, .slice _ _ _, .bool _, .slice _ _ _, .bool _, .slice _ _ _]) Hn sl25 rfl rfl (by have hmo := H.most; (try simp only at hmo); show _ + _ < _; (try simp only); omega) (fun b48 s48 Hc => ?_))
            have H := H.call (HL.wider H.fine H.fine.wfb (fun _ h => h) Hc)
            clear Hc
            simp only [List.cons_append, List.nil_append] at H
            refine draw_fresh rfl rfl (oC rfl fc47 rfl ?_)
            obtain ⟨_, s9, hr, D1, ⟨so1a, so1n, so1c⟩, rfl, Hc, h1G⟩ := ih (may.getD q default).p hf1 (by omega) hp1 (by omega) _ (Fine.fresh H.fine) ((hM.kept H).heap rfl rfl) ((hL.kept H).heap rfl rfl) (by have hmo := H.most; (try simp only at hmo); show _ + _ ≤ _; (try simp only); omega)
            refine ⟨_, _, hr, ?_⟩
            clear hr
            have H := H.callE (HL.wider H.fine H.fine.wfb (fun _ h => h) Hc)
            clear Hc
            try simp only [List.cons_append, List.nil_append, List.append_assoc] at H
            have hs1 := h1G.slc
            rw [List.length_map] at hs1
            simp only at hs1
            subst hs1
            have ht1 := tk_len (js := js) (bad := bad) hm f (may.getD q default).p hf1 (by omega) (by omega)
            have hd := H.dist
            simp only [List.pairwise_cons, List.mem_cons, forall_eq_or_imp, ne_eq] at hd
            have Ho := HL.only (X := [b9, b5]) H (by intro p hp; simp only [List.mem_cons, List.not_mem_nil, or_false] at hp; rcases hp with rfl | rfl <;> first | exact ⟨H.lt1, fun e => hd.1.1 e.symm⟩ | exact ⟨H.lt2, fun e => hd.1.2.1 e.symm⟩)
            have he1 := (Sl.prot (X := [b9, b5]) (h1G.sl H (by intro p hp; (try simp only [List.mem_cons, List.mem_append, List.not_mem_nil, or_false] at hp ⊢); first | exact hp | simp only [hp, true_or, or_true]))).elemsP
            refine dW rfl rfl (op_appendAny Ho sl25 un25 rfl rfl rfl he1 (by rfl) (by decide) (spl_plain _) (spl_len _) (by omega) (by have hmo := H.most; (try simp only at hmo); show _ + _ < _; (try simp only); omega) (fun b54 cap54 s54 Hc hcap54 => ?_))
            have H := HL.callW (A := [_]) H (HL.wider H.fine (Nat.le_refl _) (fun _ h => List.mem_append_right _ h) Hc) (by intro b hb; rw [List.mem_singleton] at hb; subst hb; exact ⟨_, List.mem_singleton.mpr rfl⟩) (by intro p hp; rw [List.mem_singleton] at hp; subst hp; simp)
            clear Hc he1
            simp only [List.cons_append, List.nil_append] at H
            refine dW rfl rfl (oC rfl fc36 rfl ?_)
            obtain ⟨_, s9, hr, rfl, Hc⟩ := rest_ok (x := (may.getD q default)) hI (Fine.narrow (X := [b5]) H.fine (by intro p hp; simp only [List.mem_cons, List.not_mem_nil, or_false] at hp; subst hp; exact H.lt2)) (by have hmo := H.most; (try simp only at hmo); show _ + _ ≤ _; (try simp only); omega)
            refine ⟨_, _, hr, ?_⟩
            clear hr
            have H := H.call0 (HL.wider H.fine (Nat.le_refl _) (fun _ h => List.mem_append_right _ h) Hc)
            clear Hc
            refine dW rfl rfl (oC rfl fc47 rfl ?_)
            obtain ⟨_, s9, hr, D2, ⟨so2a, so2n, so2c⟩, rfl, Hc, h2G⟩ := ih (andNotI (may.getD q default).w (may.getD q default).p) hf3 (by omega) hp2 (by omega) _ H.fine (hM.kept H) (hL.kept H) (by have hmo := H.most; (try simp only at hmo); show _ + _ ≤ _; (try simp only); omega)
            refine ⟨_, _, hr, ?_⟩
            clear hr
            have H := H.callE (HL.wider H.fine (Nat.le_refl _) (fun _ h => h) Hc)
            clear Hc
            try simp only [List.cons_append, List.nil_append, List.append_assoc] at H
            have hs2 := h2G.slc
            rw [List.length_map] at hs2
            simp only at hs2
            subst hs2
            have ht2 := tk_len (js := js) (bad := bad) hm f (andNotI (may.getD q default).w (may.getD q default).p) hf3 (by omega) (by omega)
            have he2 := (h2G.sl H (by intro p hp; (try simp only [List.mem_cons, List.mem_append, List.not_mem_nil, or_false] at hp ⊢); first | exact hp | simp only [hp, true_or, or_true])).elemsP
            have H00 := H
            refine dW rfl rfl (op_appendAny H sl25 un25 rfl rfl rfl he2 (by simp only [List.length_cons, List.length_append, spl_len, Sp.cells, List.length_nil]; omega) hcap54 (spl_plain _) (spl_len _) (by omega) (by omega) (fun b60 cap60 s60 H hcap60 => ?_))
            have H := HL.back H00 H
            clear H00 he2
            refine dL rfl rfl (aS rfl ⟨rfl, ?_⟩)
            refine draw_nil ?_
            refine cw_ret ?_
            refine blk_ret ?_
            refine seq_ret ?_
            refine loop_ret ?_
            refine blk_ret ?_
            refine seq_ret ?_
            refine ret_end ?_
            refine end_t ?_
            have htk : tk js bad may (f + 1) S = (may.getD q default) :: (tk js bad may f (may.getD q default).p ++ tk js bad may f (andNotI (may.getD q default).w (may.getD q default).p)) := by rw [tk, if_pos hpos, ← hfd, hxS]
            refine ⟨[(b60, .cells ((tk js bad may (f + 1) S).map Sp.cells).flatten 62)], ⟨some ⟨b60, 0, none⟩, (tk js bad may (f + 1) S).length, cap60⟩, ?_, ?_, spsGP (by rw [htk]; simp only [List.length_cons, List.length_append]; omega)⟩
            · rw [htk]
              simp only [Slc.v, List.length_cons, List.length_append]
              refine congrArg (fun z => Value.slice _ z cap60) ?_
              omega
            · rw [htk, List.map_cons, List.map_append, List.flatten_cons, List.flatten_append, ← List.append_assoc]
              exact (H.sub (List.Sublist.cons_cons _ (List.nil_sublist _))).up (by omega)
          · refine ops_nil ?_
            refine cE rfl ?_
            refine cw_skip ?_
            refine blk_norm ?_
            refine sN ?_
            refine cG ?_
            refine oO rfl (mI rfl ?_)
            refine oO rfl (op_add rfl rfl (by unfold In64; omega) ?_)
            refine oO rfl (aI rfl ?_)
            refine ops_nil ?_
            refine loop_norm ?_
            refine ⟨may.length - (q + 1), by omega, _, q + 1, slots ⟨rfl, rfl, rfl, rfl, rfl, trivial⟩, H.drop0.up (by omega), ?_, by omega, rfl⟩
            intro m hmm hmw
            rcases mem_take_succ (show q < may.length by omega) hmm with hmm | hmm
            · exact hno m hmm hmw
            · subst hmm; rw [hxS] at h; exact h
      · refine oO rfl (k1B rfl rfl ?_)
        refine ops_nil ?_
        refine cE rfl ?_
        refine cw_exit ?_
        refine seq_exit ?_
        refine loop_exit ?_
        refine blk_here ?_
        refine sN ?_
        refine cR ?_
        refine oO rfl (aC ?_)
        refine ops_nil ?_
        refine cw_ret ?_
        refine ret_end ?_
        refine end_t ?_
        have htk : tk js bad may (f + 1) S = [] := by
          rw [tk, if_neg]
          intro hpos
          first
            | omega
            | exact bb_finds (js := js) (bad := bad) hm hS hpos hfin (by rw [List.take_of_length_le (by omega)] at hno; exact hno)
        refine ⟨[], ⟨none, 0, 0⟩, rfl, (H.sub (List.nil_sublist _)).up (by omega), ?_⟩
        rw [htk]
        exact .nil 0 rfl rfl
    · refine oO rfl (mB rfl ?_)
      refine oF rfl ?_
      refine oF rfl ?_
      refine oO rfl (op_pick0C rfl ?_)
      refine ops_nil ?_
      refine cE rfl ?_
      refine cw_exit ?_
      refine seq_exit ?_
      refine loop_exit ?_
      refine blk_here ?_
      refine sN ?_
      refine cR ?_
      refine oO rfl (aC ?_)
      refine ops_nil ?_
      refine cw_ret ?_
      refine ret_end ?_
      refine end_t ?_
      have htk : tk js bad may (f + 1) S = [] := by
        rw [tk, if_neg]
        intro hpos
        first
          | omega
          | exact bb_finds (js := js) (bad := bad) hm hS hpos hfin (by rw [List.take_of_length_le (by omega)] at hno; exact hno)
      refine ⟨[], ⟨none, 0, 0⟩, rfl, (H.sub (List.nil_sublist _)).up (by omega), ?_⟩
      rw [htk]
      exact .nil 0 rfl rfl
  · exact ⟨_, 0, slots ⟨rfl, rfl, rfl, rfl, rfl, trivial⟩, H, (by intro m hmm; simp at hmm), by omega, by omega⟩

theorem cleaning_ok {I : Table} (hI : Plain I) {js : List (Int × Int)} {bad : Int} {may : List Sp} (hm : MayOK may) (hml : may.length ≤ 15) {ks : List Int} (hkl : ks.length ≤ 65535) (hcl : Clo js bad may ks) {ma : Option Addr} {mcp : Nat} {a1 a2 : Option Addr} {c1 c2 : Nat} : ∀ f, ClC I js bad may ks ma mcp a1 a2 c1 c2 f
  | 0 => fun S _ h => by omega
  | f + 1 => clean_step hI hm hml hkl hcl (cleaning_ok hI hm hml hkl hcl f)

end Go.Proofs.YtdejleegamcioaaGreat
namespace Go.Proofs.YtdejleegamcioaaGreat
open Go Go.M

theorem bf40 : buildF Tryz.prog 40 = some ([.slice none 0 0, .slice none 0 0], [(0, 1), (1, 1)]) := by kernel_rfl
theorem fb13 : funcB Tryz.f13 (Tryz.f13.body.getD .skip) 4 = true := by kernel_rfl
theorem fc19 : funcF Tryz.prog 19 = true := by kernel_rfl
theorem fc45 : funcF Tryz.prog 45 = true := by kernel_rfl

/-- What a call of Least leaves. -/
def LPost (js : List (Int × Int)) (bad : Int) (may : List Sp) (w : Int) (s : St) (N : Nat) (v' : Value) (s' : St) : Prop := ∃ (o : LOut) (D : Hp') (sx p1 p2 : Slc), LIs js bad may w o ∧ v' = .tuple ⟨[sx.v, .int .i64 o.n, .agg ⟨[p1.v, p2.v]⟩, .int .i64 o.e]⟩ ∧ HL [] s s' D N ∧ SlG D 62 10 sx.v (o.x.map Sp.cells) ∧ SlG D 23 1 p1.v (o.ks.map dc) ∧ SlG D 3 1 p2.v (o.ns.map dc)
theorem LPost.fail {js : List (Int × Int)} {bad : Int} {may : List Sp} {w : Int} {s s' : St} {N : Nat} (h : errZ w js bad may ≠ 0) (H : HL [] s s' [] N) : LPost js bad may w s N (.tuple ⟨[.slice none 0 0, .int .i64 0, .agg ⟨[.slice none 0 0, .slice none 0 0]⟩, .int .i64 (errZ w js bad may)]⟩) s' :=
  ⟨⟨[], 0, [], [], errZ w js bad may⟩, [], ⟨none, 0, 0⟩, ⟨none, 0, 0⟩, ⟨none, 0, 0⟩, .inl ⟨h, rfl⟩, rfl, H, .nil 0 rfl rfl, .nil 0 rfl rfl, .nil 0 rfl rfl⟩
theorem LPost.none {js : List (Int × Int)} {bad : Int} {may : List Sp} {w : Int} {s s' : St} {N : Nat} (h : errZ w js bad may = 0) (h2 : (bb js bad may w).1 = 65536) (H : HL [] s s' [] N) : LPost js bad may w s N (.tuple ⟨[.slice none 0 0, .int .i64 0, .agg ⟨[.slice none 0 0, .slice none 0 0]⟩, .int .i64 6]⟩) s' :=
  ⟨⟨[], 0, [], [], 6⟩, [], ⟨Option.none, 0, 0⟩, ⟨Option.none, 0, 0⟩, ⟨Option.none, 0, 0⟩, .inr (.inl ⟨h, h2, rfl⟩), rfl, H, .nil 0 rfl rfl, .nil 0 rfl rfl, .nil 0 rfl rfl⟩

set_option maxHeartbeats 4000000 in
set_option maxRecDepth 10000 in
theorem leastR_ok {I : Table} (hI : Plain I) {s : St} (hf : Fine s) {w bad : Int} {vj vm : Value} {js : List (Int × Int)} {may : List Sp} (hJ : Sl s 30 2 vj (js.map jc)) (hM : Sl s 62 10 vm (may.map Sp.cells)) (hin : ∀ x ∈ may, x.p < 9223372036854775808) (hjl : js.length ≤ 4000) (hml : may.length ≤ 15) (hroom : s.next + 1031050000000 ≤ limit) :
    ∃ v' s', Rets Tryz.prog I 13 #[.int .i64 w, vj, .int .i64 bad, vm] s v' s' ∧ LPost js bad may w s 1031050000000 v' s' := by
  have H := hf.hl
  obtain ⟨ja, jn, jcp, rfl, hjn⟩ := hJ.isSlice
  rw [List.length_map] at hjn
  subst hjn
  obtain ⟨ma, mn, mcp, rfl, hmn⟩ := hM.isSlice
  rw [List.length_map] at hmn
  subst hmn
  refine call_of 4 (hI 13 (by decide) (by decide)) Tryz.func13 rfl fb13 rfl ?_
  refine cR ?_
  refine oO rfl (aC ?_)
  refine oO rfl (aC ?_)
  refine oO rfl (op_alloc H zf40 (by omega) (fun b10 s1 H => ?_))
  refine oO rfl (aC ?_)
  refine ops_nil ?_
  refine cR ?_
  refine oO rfl (mI rfl ?_)
  refine oO rfl (mS rfl ?_)
  refine oO rfl (mI rfl ?_)
  refine oO rfl (mS rfl ?_)
  refine oO rfl (oC rfl fc45 rfl ?_)
  obtain ⟨_, s9, hr, rfl, Hc⟩ := error_ok (w := w) (bad := bad) hI H.fine (hJ.kept H) (hM.kept H) hin (by omega) hjl (by have := H.most; omega)
  refine ⟨_, _, hr, ?_⟩
  clear hr
  have H := H.call0 Hc
  clear Hc
  refine oO rfl (aI rfl ?_)
  refine ops_nil ?_
  refine cw_seq ?_
  refine cR ?_
  refine oO rfl (mI rfl ?_)
  refine oO rfl (op_neq rfl rfl (fun h => ?_) (fun h => ?_))
  · refine ops_nil ?_
    refine cT rfl ?_
    refine cR ?_
    refine oO rfl (op_build (c := [.slice _ _ _, .slice _ _ _]) bf40 rfl ?_)
    refine oO rfl (mI rfl ?_)
    refine oO rfl (aC ?_)
    refine oO rfl (aC ?_)
    refine oO rfl (op_store0 (vs := [.slice _ _ _, .slice _ _ _]) H sz40 rfl rfl rfl rfl rfl (by omega) (fun s2 H => ?_))
    refine oO rfl (aI rfl ?_)
    refine ops_nil ?_
    refine cw_ret ?_
    refine seq_ret ?_
    refine ret_end ?_
    refine end_ttct rfl rfl sh40 rfl (by exact H.own0) rfl rfl ?_
    exact LPost.fail h ((H.sub (List.nil_sublist _)).up (by omega))
  · refine ops_nil ?_
    refine cE rfl ?_
    refine cw_skip ?_
    refine sN ?_
    have herr : errZ w js bad may = 0 := by simpa using h
    obtain ⟨_, hjl2, hw0, hw1, hb0, hb1, hsp, hjb⟩ := err_zero herr
    have hm : MayOK may := fun x hx => ⟨hsp x hx, hin x hx⟩
    have hj : ∀ j ∈ js, joinB j := fun j hj => (joinsB_all hjb j hj).1
    have hrg := bb_range (js := js) (bad := bad) (may := may) w
    refine cR ?_
    refine oO rfl (mI rfl ?_)
    refine oO rfl (mS rfl ?_)
    refine oO rfl (mI rfl ?_)
    refine oO rfl (mS rfl ?_)
    refine oO rfl (oC rfl fc19 rfl ?_)
    obtain ⟨_, s9, hr, Dn, ⟨p1a, p1n, p1c⟩, ⟨p2a, p2n, p2c⟩, ks, rfl, Hc, hinc, hks, hG1, hG2⟩ := numbers_ok (w := w) (bad := bad) hI H.fine (hJ.kept H) (hM.kept H) hj hjl2 hm hml hw0 hw1 (by have := H.most; omega)
    refine ⟨_, _, hr, ?_⟩
    clear hr
    have H := H.callE Hc
    clear Hc
    try simp only [List.cons_append, List.nil_append, List.append_assoc] at H
    have hs1 := hG1.slc
    rw [List.length_map] at hs1
    simp only at hs1
    subst hs1
    have hs2 := hG2.slc
    rw [List.length_map] at hs2
    simp only at hs2
    subst hs2
    have hkl := rch_len hm hw0 hw1 hinc (fun x hx => (hks x).mp hx)
    have hwk : w ∈ ks := (hks w).mpr .self
    simp only [Slc.v]
    refine oO rfl (op_alloc H zf40 (by omega) (fun b13 s3 H => ?_))
    refine oO rfl (op_store0 (vs := [.slice _ _ _, .slice _ _ _]) H sz40 rfl rfl rfl rfl rfl (by omega) (fun s4 H => ?_))
    refine ops_nil ?_
    refine cR ?_
    refine oO rfl (lN sh40 rfl (by exact H.own0) rfl ?_)
    refine oO rfl (mI rfl ?_)
    refine oO rfl (oC rfl fc46 rfl ?_)
    obtain ⟨_, s9, hr, rfl, Hc⟩ := atR_ok (x := w) hI H.fine (hG1.sl H (by intro p hp; (try simp only [List.mem_cons, List.mem_append, List.not_mem_nil, or_false] at hp ⊢); first | exact hp | simp only [hp, true_or, or_true])) (hG2.sl H (by intro p hp; (try simp only [List.mem_cons, List.mem_append, List.not_mem_nil, or_false] at hp ⊢); first | exact hp | simp only [hp, true_or, or_true])) (by omega) (by have := H.most; omega)
    refine ⟨_, _, hr, ?_⟩
    clear hr
    have H := H.call0 Hc
    clear Hc
    have ha0 : atP ks (ks.map (fun q => (bb js bad may q).1)) w = (bb js bad may w).1 := atP_map hwk
    rw [ha0]
    refine oO rfl (aI rfl ?_)
    refine ops_nil ?_
    refine cw_seq ?_
    refine cR ?_
    refine oO rfl (mI rfl ?_)
    refine oO rfl (op_eql rfl rfl (fun h => ?_) (fun h => ?_))
    · refine ops_nil ?_
      refine cT rfl ?_
      refine cR ?_
      refine oO rfl (op_build (c := [.slice _ _ _, .slice _ _ _]) bf40 rfl ?_)
      refine oO rfl (aC ?_)
      refine oO rfl (aC ?_)
      refine oO rfl (op_store1 (vs := [.slice _ _ _, .slice _ _ _]) H sz40 rfl rfl rfl rfl rfl (by omega) (fun s5 H => ?_))
      refine oO rfl (aC ?_)
      refine ops_nil ?_
      refine cw_ret ?_
      refine seq_ret ?_
      refine ret_end ?_
      refine end_ttct rfl rfl sh40 rfl (by exact H.own1) rfl rfl ?_
      exact LPost.none herr h ((H.sub (List.nil_sublist _)).up (by omega))
    · refine ops_nil ?_
      refine cE rfl ?_
      refine cw_skip ?_
      refine sN ?_
      refine cw_dseq [⟨0, 0, .light, [2, 5]⟩, ⟨1, 0, .light, [2, 5]⟩, ⟨2, 0, .light, [5]⟩, ⟨4, 0, .light, [2, 5]⟩, ⟨5, 0, .light, [2]⟩, ⟨3, 7, .whole, [5]⟩, ⟨6, 15, .light, [5]⟩, ⟨7, 95, .light, [5]⟩, ⟨8, 255, .whole, []⟩, ⟨9, 511, .light, []⟩] (by kernel_rfl) (by kernel_rfl) ?_
      refine dL rfl rfl (mI rfl ⟨rfl, ?_⟩)
      refine dL rfl rfl (mS rfl ⟨rfl, ?_⟩)
      refine dr_loadN rfl rfl sh40 rfl (by exact H.own0) (by exact H.lim0 (by omega)) rfl ?_
      refine dL rfl rfl (mI rfl ⟨rfl, ?_⟩)
      refine dr_loadN rfl rfl sh40 rfl (by exact H.own0) (by exact H.lim0 (by omega)) rfl ?_
      refine dW rfl rfl (oC rfl fc47 rfl ?_)
      have hclo : Clo js bad may ks := fun m hmm hmw hn => ⟨(hks _).mpr (.part ((hks _).mp hmw) hn hmm rfl), (hks _).mpr (.rest ((hks _).mp hmw) hn hmm rfl)⟩
      obtain ⟨_, s9, hr, D3, ⟨so3a, so3n, so3c⟩, rfl, Hc, h3G⟩ := cleaning_ok hI hm hml hkl hclo (w.toNat + 1) w hw0 (by omega) hwk (by omega) _ (Fine.narrow (X := [b13]) H.fine (by intro p hp; rw [List.mem_singleton] at hp; subst hp; exact H.lt0)) (Sl.prot (X := [b13]) (hM.kept H)) ⟨Sl.prot (X := [b13]) (hG1.sl H (by intro p hp; (try simp only [List.mem_cons, List.mem_append, List.not_mem_nil, or_false] at hp ⊢); first | exact hp | simp only [hp, true_or, or_true])), Sl.prot (X := [b13]) (hG2.sl H (by intro p hp; (try simp only [List.mem_cons, List.mem_append, List.not_mem_nil, or_false] at hp ⊢); first | exact hp | simp only [hp, true_or, or_true]))⟩ (by have hmo := H.most; (try simp only at hmo); show _ + _ ≤ _; (try simp only); omega)
      refine ⟨_, _, hr, ?_⟩
      clear hr
      have H := H.callE (HL.wider H.fine (Nat.le_refl _) (fun _ h => List.mem_append_right _ h) Hc)
      clear Hc
      try simp only [List.cons_append, List.nil_append, List.append_assoc] at H
      refine dL rfl rfl (aS rfl ⟨rfl, ?_⟩)
      refine dL rfl rfl (aI rfl ⟨rfl, ?_⟩)
      refine dr_store1 (vs := [.slice _ _ _, .slice _ _ _]) (fr := []) H rfl rfl sz40 rfl rfl rfl rfl rfl rfl (by simp) (by omega) (fun s97 H => ?_)
      refine dL rfl rfl (aC ⟨rfl, ?_⟩)
      refine draw_nil ?_
      refine cw_ret ?_
      refine ret_end ?_
      refine end_ttct rfl rfl sh40 rfl (by exact H.own1) rfl rfl ?_
      refine ⟨⟨tk js bad may (w.toNat + 1) w, (bb js bad may w).1, ks, ks.map (fun q => (bb js bad may q).1), 0⟩, _, ⟨so3a, so3n, so3c⟩, ⟨p1a, ks.length, p1c⟩, ⟨p2a, _, p2c⟩, .inr (.inr ⟨herr, by omega, hinc, hks, rfl, rfl, rfl, rfl⟩), rfl, H.up (by omega), h3G.mono ?_, hG1.mono ?_, hG2.mono ?_⟩
      · intro p hp
        simp only [List.mem_cons, List.mem_append, hp, true_or, or_true]
      · intro p hp
        simp only [List.mem_cons, List.mem_append, hp, true_or, or_true]
      · intro p hp
        simp only [List.mem_cons, List.mem_append, hp, true_or, or_true]

end Go.Proofs.YtdejleegamcioaaGreat
namespace Go.Proofs.YtdejleegamcioaaGreat
open Go Go.M



def PreE (e : Int) (s : St) (N : Nat) : FOut → Prop
  | .ret F s' => ∃ (b10 : Nat), F 8 = .slice none 0 0 ∧ F 9 = .int .i64 0 ∧ F 10 = ptr b10 ∧ F 11 = .int .i64 e ∧ HL [] s s' [(b10, .cells [.slice none 0 0, .slice none 0 0] 36)] N
  | _ => False

set_option maxHeartbeats 4000000 in
set_option maxRecDepth 10000 in
theorem pre_err {I : Table} (hI : Plain I) {s : St} (hf : Fine s) {w bad : Int} {vj vm : Value} {js : List (Int × Int)} {may : List Sp} (hJ : Sl s 30 2 vj (js.map jc)) (hM : Sl s 62 10 vm (may.map Sp.cells)) (herr : errZ w js bad may ≠ 0) (hroom : s.next + 10020 ≤ limit) :
    CodeW Tryz.prog I leastPre (frameOf #[.int .i64 w, vj, .int .i64 bad, vm]) s (PreE (errZ w js bad may) s 10020) := by
  have H := hf.hl
  obtain ⟨ja, jn, jcp, rfl, hjn⟩ := hJ.isSlice
  obtain ⟨ma, mn, mcp, rfl, hmn⟩ := hM.isSlice
  refine cR ?_
  refine oO rfl (op_boxS H rfl (by omega) (fun b5 s1 H => ?_))
  refine oO rfl (op_boxI H rfl (by omega) (fun b6 s2 H => ?_))
  refine oO rfl (op_boxS H rfl (by omega) (fun b7 s3 H => ?_))
  refine oO rfl (aC ?_)
  refine oO rfl (aC ?_)
  refine oO rfl (op_alloc H zf36 (by omega) (fun b10 s4 H => ?_))
  refine oO rfl (aC ?_)
  refine ops_nil ?_
  refine cw_seq ?_
  refine cR ?_
  refine oO rfl (mI rfl ?_)
  refine oO rfl (lO sh24 rfl (by exact H.own3) rfl ?_)
  refine oO rfl (lO sh23 rfl (by exact H.own2) rfl ?_)
  refine oO rfl (lO sh25 rfl (by exact H.own1) rfl ?_)
  refine oO rfl (oC rfl fc40 rfl ?_)
  obtain ⟨_, s9, hr, rfl, Hc⟩ := valid_args_ok (w := w) (bad := bad) hI H.fine (hJ.kept H) (hM.kept H) (by have := H.most; omega)
  refine ⟨_, _, hr, ?_⟩
  clear hr
  have H := H.call0 Hc
  clear Hc
  refine oO rfl (aI rfl ?_)
  refine ops_nil ?_
  refine cR ?_
  refine oO rfl (mI rfl ?_)
  refine oO rfl (op_neq rfl rfl (fun h => ?_) (fun h => False.elim (by exact h herr)))
  refine ops_nil ?_
  refine cT rfl ?_
  refine cR ?_
  refine oO rfl (op_build (c := [.slice _ _ _, .slice _ _ _]) bf36 rfl ?_)
  refine oO rfl (mI rfl ?_)
  refine oO rfl (aC ?_)
  refine oO rfl (aC ?_)
  refine oO rfl (op_store0 (vs := [.slice _ _ _, .slice _ _ _]) H sz36 rfl rfl rfl rfl rfl (by omega) (fun s5 H => ?_))
  refine oO rfl (aI rfl ?_)
  refine ops_nil ?_
  refine cw_ret ?_
  refine seq_ret ?_
  refine ⟨b10, rfl, rfl, rfl, rfl, ?_⟩
  exact (H.sub (L' := [(b10, .cells [.slice none 0 0, .slice none 0 0] 36)]) (.cons_cons _ (List.nil_sublist _))).up (by omega)

end Go.Proofs.YtdejleegamcioaaGreat
namespace Go.Proofs.YtdejleegamcioaaGreat
open Go Go.M

theorem finish_of {F : FF} {a : Fr} {s : St} {Post : Value → St → Prop} (ha : Agrees 78 F a) (h : endQ Tryz.prog Tryz.f12.results.toList Post F s) : ∃ v, finish Tryz.prog Tryz.f12 a s = .ret v s ∧ Post v s ∧ ∀ a2, Agrees 78 F a2 → finish Tryz.prog Tryz.f12 a2 s = .ret v s := by
  have key : ∃ v, Post v s ∧ ∀ a2, Agrees 78 F a2 → finish Tryz.prog Tryz.f12 a2 s = .ret v s := by
    unfold endQ at h
    split at h
    · next v hv => exact ⟨v, h, fun a ha => by unfold finish; rw [results_sim ha _ resN, hv]⟩
    · next l hl hv =>
      refine ⟨_, h, fun a ha => ?_⟩
      unfold finish
      rw [results_sim ha _ resN, hv]
      cases l with
      | nil => rfl
      | cons x l => cases l with
        | nil => exact (hl x rfl).elim
        | cons y l => rfl
    · exact h.elim
  obtain ⟨v, h1, h2⟩ := key
  exact ⟨v, h2 a ha, h1, h2⟩

theorem least_pre {args : Array Value} (h4 : args.toList.length = 4) (s : St) (n : Nat) : SimOut 78 (codeF Tryz.prog noTable n leastPre (frameOf args) s) (codeM Tryz.prog noTable n leastPre (Fr.make args 78) s) :=
  code_sim n leastPre _ _ s preN (agrees_make (by omega) (by decide))

theorem room_help {a b c d k o : Nat} (h1 : a + 20000000000 ≤ d) (h2 : b ≤ 1200000000) (h3 : c ≤ 65535) (hk : k ≤ 400000) (ho : o ≤ 1) : a + (b + 2 * c + o + 2 * c + k) ≤ d := by omega
theorem room_help2 {b c k o : Nat} (h2 : b ≤ 1200000000) (h3 : c ≤ 65535) (hk : k ≤ 400000) (ho : o ≤ 1) : b + 2 * c + o + 2 * c + k ≤ 20000000000 := by omega
/-- undo.Least. -/
def LeastG (I : Table) : Prop := ∀ (s : St) (w bad : Int) (vj vm : Value) (js : List (Int × Int)) (may : List Sp), Fine s → Sl s 30 2 vj (js.map jc) → Sl s 62 10 vm (may.map Sp.cells) → (∀ x ∈ may, x.p < 9223372036854775808) → may.length ≤ 15 → s.next + 20000000000 ≤ limit →
  ∃ v' s', Rets Tryz.prog I 12 #[.int .i64 w, vj, .int .i64 bad, vm] s v' s' ∧ LPost js bad may w s 20000000000 v' s'
set_option maxHeartbeats 4000000 in
set_option maxRecDepth 10000 in
theorem leastE {I : Table} (hI : I 12 = some leastI) {s : St} {w bad : Int} {vj vm : Value} {js : List (Int × Int)} {may : List Sp} (hf : Fine s) (hJ : Sl s 30 2 vj (js.map jc)) (hM : Sl s 62 10 vm (may.map Sp.cells)) (herr : errZ w js bad may ≠ 0) (hroom : s.next + 20000000000 ≤ limit) :
    ∃ v' s', Rets Tryz.prog I 12 #[.int .i64 w, vj, .int .i64 bad, vm] s v' s' ∧ LPost js bad may w s 20000000000 v' s' := by
  obtain ⟨o, hq, n1, hn1⟩ := pre_err plain_none hf hJ hM herr (by omega)
  have hsim := least_pre (args := #[.int .i64 w, vj, .int .i64 bad, vm]) rfl s
  have hret : ∀ v s', Ever #[.int .i64 w, vj, .int .i64 bad, vm] s v s' → Rets Tryz.prog I 12 #[.int .i64 w, vj, .int .i64 bad, vm] s v s' := fun v s' h => ⟨0, fun m _ => by
    simp only [callM, callWith, hI]
    exact leastI_eq h⟩
  cases o with
  | exit i F s' => exact hq.elim
  | stuck => exact hq.elim
  | normal F s' => exact hq.elim
  | ret F s' =>
    obtain ⟨b10, e8, e9, e10, e11, H⟩ := hq
    have he : endQ Tryz.prog Tryz.f12.results.toList (fun v s2 => v = .tuple ⟨[.slice none 0 0, .int .i64 0, .agg ⟨[.slice none 0 0, .slice none 0 0]⟩, .int .i64 (errZ w js bad may)]⟩ ∧ s2 = s') F s' :=
      end_ttct e8 e9 sh36 e10 H.own0 rfl e11 ⟨rfl, rfl⟩
    refine ⟨_, s', hret _ s' ⟨n1, fun n hn => ?_⟩, LPost.fail herr (H.drop0.up (by omega))⟩
    have h0 := hsim n
    rw [hn1 n hn] at h0
    cases hm2 : codeM Tryz.prog noTable n leastPre (Fr.make #[.int .i64 w, vj, .int .i64 bad, vm] 78) s with
    | ret a s2 =>
      rw [hm2] at h0
      obtain ⟨rfl, ha⟩ := h0
      obtain ⟨v, hv, ⟨rfl, _⟩, _⟩ := finish_of ha he
      simp only [leastN, hm2]
      exact hv
    | _ => rw [hm2] at h0; exact h0.elim
set_option maxHeartbeats 4000000 in
set_option maxRecDepth 10000 in
theorem leastG {I : Table} (hI : I 12 = some leastI) : LeastG I := by
  intro s w bad vj vm js may hf hJ hM hin hml hroom
  by_cases herr : errZ w js bad may = 0
  case neg => exact leastE hI hf hJ hM herr hroom
  obtain ⟨_, hjl, hw0, hw1, hb0, hb1, hsp, hjb⟩ := err_zero herr
  have hm : MayOK may := fun x hx => ⟨hsp x hx, hin x hx⟩
  have hj := joinsB_all hjb
  have htb := tb_small hm hml (w.toNat + 1) w
  have hrg := bb_range (js := js) (bad := bad) (may := may) w
  obtain ⟨o, hq, n1, hn1⟩ := pre_ok plain_none hf hJ hM hj hjl hm hml hw0 hw1 hb0 hb1 (by omega)
  have hsim := least_pre (args := #[.int .i64 w, vj, .int .i64 bad, vm]) rfl s
  have hret : ∀ v s', Ever #[.int .i64 w, vj, .int .i64 bad, vm] s v s' → Rets Tryz.prog I 12 #[.int .i64 w, vj, .int .i64 bad, vm] s v s' := fun v s' h => ⟨0, fun m _ => by
    simp only [callM, callWith, hI]
    exact leastI_eq h⟩
  cases o with
  | exit i F s' => exact hq.elim
  | stuck => exact hq.elim
  | ret F s' =>
    obtain ⟨h1, b10, e8, e9, e10, e11, H⟩ := hq
    have he : endQ Tryz.prog Tryz.f12.results.toList (fun v s2 => v = .tuple ⟨[.slice none 0 0, .int .i64 0, .agg ⟨[.slice none 0 0, .slice none 0 0]⟩, .int .i64 6]⟩ ∧ s2 = s') F s' :=
      end_ttct e8 e9 sh36 e10 H.own0 rfl e11 ⟨rfl, rfl⟩
    refine ⟨_, s', hret _ s' ⟨n1, fun n hn => ?_⟩, LPost.none herr h1 (H.drop0.up (by omega))⟩
    have h0 := hsim n
    rw [hn1 n hn] at h0
    cases hm2 : codeM Tryz.prog noTable n leastPre (Fr.make #[.int .i64 w, vj, .int .i64 bad, vm] 78) s with
    | ret a s2 =>
      rw [hm2] at h0
      obtain ⟨rfl, ha⟩ := h0
      obtain ⟨v, hv, ⟨rfl, _⟩, _⟩ := finish_of ha he
      simp only [leastN, hm2]
      exact hv
    | _ => rw [hm2] at h0; exact h0.elim
  | normal F s1 =>
    obtain ⟨h1, G, b10, bK, b16, r, E, rfl, hg, hk, hEl, hRc, H⟩ := hq
    have hE : 0 < E.length := by
      cases E with
      | nil => simp [keysE] at hk
      | cons a b => simp
    obtain ⟨N, hN⟩ : ∃ N, N = 10020 + tb may (w.toNat + 1) w := ⟨_, rfl⟩
    rw [← hN] at H
    have hNb : N ≤ 1200000000 := by omega
    clear hN htb
    obtain ⟨s2, bS, hseg, H2⟩ := seg_ok H hE (by omega) (by omega)
    have hlen : (isort (keysE E)).length = E.length := by rw [(isort_perm _).length_eq]; simp [keysE]
    have hk7 : (isort (keysE E)).length ≤ 10000000 := by rw [hlen]; omega
    have hroom2 : s.next + (N + 2 * E.length + 1 + 2 * (isort (keysE E)).length + 400000) ≤ limit := by
      rw [hlen]
      exact room_help hroom hNb hEl (Nat.le_refl _) (Nat.le_refl _)
    obtain ⟨o2, hq2, n2, hn2⟩ := tail_ok (I := noTable) (G := G) (ks := isort (keysE E)) (n0 := N + 2 * E.length + 1) (cS := 2 * E.length + 1) plain_none hm hw0 hw1 h1 hg hk (fun x hx => (isort_perm _).mem_iff.mp hx) hk7 (by omega) H2 hroom2
    have hpre : ∀ n, n1 + n2 ≤ n → ∃ a, codeM Tryz.prog noTable n leastPre (Fr.make #[.int .i64 w, vj, .int .i64 bad, vm] 78) s = .normal a s1 ∧ Agrees 78 (lay G [(0, .int .i64 w), (10, ptr b10), (13, ptr bK), (15, .int .i64 (bb js bad may w).1), (16, ptr b16)]) a ∧ segS (a.get 13) (a.get 16) s1 = some s2 := by
      intro n hn
      have h0 := hsim n
      rw [hn1 n (by omega)] at h0
      cases hm2 : codeM Tryz.prog noTable n leastPre (Fr.make #[.int .i64 w, vj, .int .i64 bad, vm] 78) s with
      | normal a s3 =>
        rw [hm2] at h0
        obtain ⟨rfl, ha⟩ := h0
        refine ⟨a, rfl, ha, ?_⟩
        rw [ha.get 13 (by decide), ha.get 16 (by decide)]
        exact hseg
      | _ => rw [hm2] at h0; exact h0.elim
    have hend : ∀ (F3 : FF) (s' : St), (∀ n, n2 ≤ n → codeF Tryz.prog noTable n leastTail (lay G [(0, .int .i64 w), (10, ptr b10), (13, ptr bK), (15, .int .i64 (bb js bad may w).1), (16, ptr b16)]) s2 = .ret F3 s') ∨ (∀ n, n2 ≤ n → codeF Tryz.prog noTable n leastTail (lay G [(0, .int .i64 w), (10, ptr b10), (13, ptr bK), (15, .int .i64 (bb js bad may w).1), (16, ptr b16)]) s2 = .normal F3 s') →
        endQ Tryz.prog Tryz.f12.results.toList (fun v' s' => ∃ (D : Hp') (sx p1 p2 : Slc), v' = .tuple ⟨[sx.v, .int .i64 (bb js bad may w).1, .agg ⟨[p1.v, p2.v]⟩, .int .i64 0]⟩ ∧ HL [] s s' D (N + 2 * E.length + 1 + 2 * (isort (keysE E)).length + 400000) ∧ SlG D 62 10 sx.v ((tk js bad may (w.toNat + 1) w).map Sp.cells) ∧ SlG D 23 1 p1.v ((isort (keysE E)).map dc) ∧ SlG D 3 1 p2.v (((isort (keysE E)).map fun q => (bb js bad may q).1).map dc)) F3 s' →
        ∃ v' s', Rets Tryz.prog I 12 #[.int .i64 w, vj, .int .i64 bad, vm] s v' s' ∧ LPost js bad may w s 20000000000 v' s' := by
      intro F3 s' hrun he
      -- the frame at one great fuel
      obtain ⟨a, hpa, hag, hsg⟩ := hpre (n1 + n2) (Nat.le_refl _)
      have htail : ∀ n, n2 ≤ n → ∀ a, Agrees 78 (lay G [(0, .int .i64 w), (10, ptr b10), (13, ptr bK), (15, .int .i64 (bb js bad may w).1), (16, ptr b16)]) a → ∃ a3, Agrees 78 F3 a3 ∧ (codeM Tryz.prog noTable n leastTail a s2 = .ret a3 s' ∨ codeM Tryz.prog noTable n leastTail a s2 = .normal a3 s') := by
        intro n hn a ha
        have h0 := code_sim (P := Tryz.prog) (I := noTable) n leastTail _ a s2 tailN ha
        rcases hrun with hrun | hrun
        · rw [hrun n hn] at h0
          cases hm3 : codeM Tryz.prog noTable n leastTail a s2 with
          | ret a3 s3 =>
            rw [hm3] at h0
            obtain ⟨rfl, ha3⟩ := h0
            exact ⟨a3, ha3, .inl rfl⟩
          | _ => rw [hm3] at h0; exact h0.elim
        · rw [hrun n hn] at h0
          cases hm3 : codeM Tryz.prog noTable n leastTail a s2 with
          | normal a3 s3 =>
            rw [hm3] at h0
            obtain ⟨rfl, ha3⟩ := h0
            exact ⟨a3, ha3, .inr rfl⟩
          | _ => rw [hm3] at h0; exact h0.elim
      obtain ⟨a3, ha3, _⟩ := htail (n1 + n2) (by omega) a hag
      obtain ⟨v, _, ⟨D, sx, p1, p2, hv, HD, hG, hG1, hG2⟩, hall⟩ := finish_of ha3 he
      refine ⟨v, s', hret v s' ⟨n1 + n2, fun n hn => ?_⟩, ⟨⟨tk js bad may (w.toNat + 1) w, (bb js bad may w).1, isort (keysE E), (isort (keysE E)).map fun q => (bb js bad may q).1, 0⟩, D, sx, p1, p2, .inr (.inr ⟨herr, h1, isort_inc hg.nodup, fun k => ⟨fun hk2 => hRc k ((isort_perm _).mem_iff.mp hk2), fun hk2 => (isort_perm _).mem_iff.mpr (hg.closed.all hk hk2)⟩, rfl, rfl, rfl, rfl⟩), hv, HD.up (by rw [hlen]; exact room_help2 hNb hEl (Nat.le_refl _) (Nat.le_refl _)), hG, hG1, hG2⟩⟩
      obtain ⟨a4, hp4, hag4, hsg4⟩ := hpre n hn
      obtain ⟨a5, ha5, h5⟩ := htail n (by omega) a4 hag4
      rcases h5 with h5 | h5
      · simp only [leastN, hp4, hsg4, h5]
        exact hall a5 ha5
      · simp only [leastN, hp4, hsg4, h5]
        exact hall a5 ha5
    cases o2 with
    | exit i F s' => exact hq2.elim
    | stuck => exact hq2.elim
    | normal F3 s' => exact hend F3 s' (.inr hn2) hq2
    | ret F3 s' => exact hend F3 s' (.inl hn2) hq2
end Go.Proofs.YtdejleegamcioaaGreat
