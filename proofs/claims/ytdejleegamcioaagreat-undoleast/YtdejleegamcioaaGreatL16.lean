/- Cells of lists of splits: reading and writing one. -/
/- A list of splits with one thing changed. -/
/- Maps from sets to what is known of them: rules. -/
/- The least cleaning of a set: what the program's recursion comes to. -/
/- Which sets come about from a set by splits of sets that need work. -/
/- The state in which the recursion runs. -/
import Derived.Test.YtdejleegamcioaaGreatL15
namespace Go.Proofs.YtdejleegamcioaaGreat
open Go Go.M

theorem lput_app {α : Type} : ∀ (A : List α) (j : Nat) (vs R r : List α), lput j vs R = some r → lput (A.length + j) vs (A ++ R) = some (A ++ r)
  | [], j, vs, R, r, h => by simpa using h
  | a :: A, j, vs, R, r, h => by
    have := lput_app A j vs R r h
    have e : (a :: A).length + j = (A.length + j) + 1 := by simp; omega
    rw [e]
    simp only [List.cons_append, lput, this]

/-- The cells of splits. -/
abbrev spsC (l : List Sp) : List Value := (l.map Sp.cells).flatten
theorem sps_len (l : List Sp) : (spsC l).length = l.length * 10 := by
  have := flat_len (sz := 10) (es := l.map Sp.cells) (by intro x hx; obtain ⟨y, _, rfl⟩ := List.mem_map.mp hx; rfl)
  simpa using this
theorem sps_plain (l : List Sp) : (spsC l).all Go.M.plainCell = true := by
  rw [List.all_eq_true]
  intro x hx
  obtain ⟨c, hc, hx⟩ := List.mem_flatten.mp hx
  obtain ⟨y, _, rfl⟩ := List.mem_map.mp hc
  simp only [Sp.cells, List.mem_cons, List.not_mem_nil, or_false] at hx
  rcases hx with rfl | rfl | rfl | rfl | rfl | rfl | rfl | rfl | rfl | rfl <;> rfl
theorem sps_get {l : List Sp} {k m : Nat} (hk : k < l.length) (hm : m = k * 10) : ltake 10 (ldrop m (spsC l)) = some (l.getD k default).cells := by
  have := flat_get (sz := 10) (es := l.map Sp.cells) (k := k) (by intro x hx; obtain ⟨y, _, rfl⟩ := List.mem_map.mp hx; rfl) (by simpa using hk)
  rw [Nat.zero_add] at this
  rw [hm, this, getD_map hk]
theorem sps_split {l : List Sp} {k : Nat} (hk : k < l.length) : spsC l = spsC (l.take k) ++ ((l.getD k default).cells ++ spsC (l.drop (k + 1))) := by
  have e : l = l.take k ++ (l.getD k default :: l.drop (k + 1)) := by rw [← drop_getD default hk, List.take_append_drop]
  conv => lhs; rw [e]
  simp [spsC]
theorem sps_set {l : List Sp} {k : Nat} {y : Sp} (hk : k < l.length) : spsC (l.set k y) = spsC (l.take k) ++ (y.cells ++ spsC (l.drop (k + 1))) := by
  rw [List.set_eq_take_append_cons_drop, if_pos hk]
  simp [spsC]
/-- Writing within a split. -/
theorem sps_put {l : List Sp} {k j m : Nat} {y : Sp} {vs : List Value} (hk : k < l.length) (hm : m = k * 10 + j) (h : ∀ B, lput j vs ((l.getD k default).cells ++ B) = some (y.cells ++ B)) : lput m vs (spsC l) = some (spsC (l.set k y)) := by
  have hl : (spsC (l.take k)).length = k * 10 := by rw [sps_len, List.length_take]; rw [Nat.min_eq_left (by omega)]
  rw [hm, sps_split hk, sps_set hk, ← hl]
  exact lput_app _ _ _ _ _ (h _)

theorem elems_take {c : List Value} {off sz : Nat} {es : List (List Value)} (hs : 0 < sz) (hz : ∀ x ∈ es, x.length = sz) (hc : ∀ k, k < es.length → ltake sz (ldrop (off + k * sz) c) = some (es.getD k [])) : ∀ n, n ≤ es.length → (c.drop off).take (n * sz) = (es.take n).flatten ∧ (n = 0 ∨ off + n * sz ≤ c.length)
  | 0, _ => by simp
  | n + 1, h => by
    obtain ⟨ih, _⟩ := elems_take hs hz hc n (by omega)
    have h1 := hc n (by omega)
    rw [ltake_eq, ldrop_eq] at h1
    split at h1
    · next hle =>
      rw [Option.some.injEq] at h1
      rw [List.length_drop] at hle
      have hx : (es.getD n []).length = sz := hz _ (getD_mem (by omega))
      refine ⟨?_, ?_⟩
      · rw [Nat.add_mul, Nat.one_mul, List.take_add, ih, List.drop_drop, h1, List.take_succ_eq_append_getElem (by omega), List.flatten_append]
        simp [List.getD_eq_getElem?_getD, List.getElem?_eq_getElem (show n < es.length by omega)]
      · right
        rw [Nat.add_mul, Nat.one_mul]
        omega
    · cases h1
theorem Sl.elems {s : St} {e : TypeId} {sz : Nat} {v : Value} {es : List (List Value)} (h : Sl s e sz v es) (hz : ∀ x ∈ es, x.length = sz) (hs : 0 < sz) : Elems s sz v es.length es.flatten := by
  cases h with
  | nil c hv hl => subst hl; subst hv; exact elems_nil
  | block b off cap c hv hg hb hcap hc =>
    subst hv
    by_cases hn : es.length = 0
    · have : es = [] := List.length_eq_zero_iff.mp hn
      subst this
      refine ⟨⟨_, _, rfl⟩, ?_⟩
      simp only [firstL, hg, List.length_nil, Nat.zero_mul, ltake, List.flatten_nil]
    · obtain ⟨h1, h2⟩ := elems_take hs hz hc es.length (Nat.le_refl _)
      rw [List.take_length] at h1
      exact elems_block hg h1 (by omega)
theorem Sl.elemsS {s : St} {v : Value} {l : List Sp} (h : Sl s 62 10 v (l.map Sp.cells)) : Elems s 10 v l.length (spsC l) := by
  have := Sl.elems h (by intro x hx; obtain ⟨y, _, rfl⟩ := List.mem_map.mp hx; rfl) (by decide)
  rwa [List.length_map] at this
theorem jcs_len (l : List (Int × Int)) : ((l.map jc).flatten).length = l.length * 2 := by
  have := flat_len (sz := 2) (es := l.map jc) (by intro x hx; obtain ⟨y, _, rfl⟩ := List.mem_map.mp hx; rfl)
  simpa using this
theorem jcs_plain (l : List (Int × Int)) : ((l.map jc).flatten).all Go.M.plainCell = true := by
  rw [List.all_eq_true]
  intro x hx
  obtain ⟨c, hc, hx⟩ := List.mem_flatten.mp hx
  obtain ⟨y, _, rfl⟩ := List.mem_map.mp hc
  simp only [jc, List.mem_cons, List.not_mem_nil, or_false] at hx
  rcases hx with rfl | rfl <;> rfl
theorem Sl.elemsJ {s : St} {v : Value} {l : List (Int × Int)} (h : Sl s 30 2 v (l.map jc)) : Elems s 2 v l.length ((l.map jc).flatten) := by
  have := Sl.elems h (by intro x hx; obtain ⟨y, _, rfl⟩ := List.mem_map.mp hx; rfl) (by decide)
  rwa [List.length_map] at this
theorem spsG {b cap : Nat} {l : List Sp} (hcap : l.length ≤ cap / 2) : SlG [(b, .cells (spsC l) 62)] 62 10 (.slice (some ⟨b, 0, none⟩) l.length cap) (l.map Sp.cells) := by
  refine SlG.block b 0 cap (spsC l) (by simp) (by simp) (by simpa using hcap) fun k hk => ?_
  exact flat_get (by intro x hx; obtain ⟨y, _, rfl⟩ := List.mem_map.mp hx; rfl) hk
end Go.Proofs.YtdejleegamcioaaGreat
namespace Go.M
section
variable {P : Program} {I : Table} {F : FF} {s : St} {Q : FF → St → Prop} {d : Option Tmp} {ty : TypeId} {pos : String} {af : Array Edge} {g : Option (Nat × Bool)} {W : List Nat} {s0 : St} {L : Hp'} {n : Nat}
/-- Onto a slice that was made without elements. -/
theorem op_append00 {ag : Array Operand} {ts : Array TypeId} {t t2 e e2 : TypeId} {tr : List TypeId} {x y : Operand} {sz by_ m b : Nat} {z l : List Value} (H : HL W s0 s ((b, .cells [] e) :: L) n) (hs : sliceF P t = some (e, sz, by_, z)) (hu2 : P.underlying t2 = some (.slice e2))
    (ht : ts.toList = t :: t2 :: tr) (ha : ag.toList = [x, y]) (hx : evalF F x = .slice (some ⟨b, 0, none⟩) 0 0) (he : Elems s sz (evalF F y) m l) (hm : 0 < m) (hp : l.all plainCell = true) (hl : l.length = m * sz) (hb : m * (by_ + 1) ≤ 1073741824) (hr : s0.next + n < limit)
    (k : ∀ b' s', HL W s0 s' ((b', .cells l e) :: L) (n + 1) → Q (upd F d (.slice (some ⟨b', 0, none⟩) m (2 * m + 1))) s') : OpW P I ⟨d, .call ⟨.builtin .append, ag, ts⟩, ty, pos, af, g⟩ F s Q := by
  refine op_append0 H hs hu2 ht ha hx he (by simp) (by omega) hp hl (by rw [Nat.zero_add]; exact hb) hr fun b' s' H' => ?_
  have := k b' s' H'
  rwa [Nat.zero_add]
end
end Go.M
namespace Go.Proofs.YtdejleegamcioaaGreat
open Go Go.M

theorem fb11 : funcB Tryz.f11 (Tryz.f11.body.getD .skip) 4 = true := by kernel_rfl
theorem of62_2 : offF Tryz.prog 62 2 = some 2 := by kernel_rfl

set_option maxHeartbeats 4000000 in
set_option maxRecDepth 10000 in
theorem bent_ok {I : Table} (hI : Plain I) {s : St} (hf : Fine s) {v : Value} {l : List Sp} {how at_ by_ : Int} (hl : Sl s 62 10 v (l.map Sp.cells)) (hlen : l.length ≤ 100) (hin : ∀ x ∈ l, In64 x.w ∧ In64 x.p) (h1 : In64 how) (h2 : In64 at_) (h3 : In64 by_) (hroom : s.next + 2000000001000 ≤ limit) :
    ∃ v' s', Rets Tryz.prog I 11 #[v, .int .i64 how, .int .i64 at_, .int .i64 by_] s v' s' ∧ (∃ (D DD : Hp') (l2 : List Sp), HL [] s s' (D ++ DD) 2000000001000 ∧ SlG D 62 10 v' (l2.map Sp.cells) ∧ l2.length ≤ l.length + 1 ∧ ∀ x ∈ l2, (In64 x.w ∧ In64 x.p) ∧ (DirIn DD x ∨ ∃ y ∈ l, x.s1 = y.s1 ∧ x.s2 = y.s2 ∧ x.s3 = y.s3 ∧ x.s4 = y.s4 ∧ x.n2 = y.n2 ∧ x.n4 = y.n4)) := by
  have H := hf.hl
  obtain ⟨a, len, cap, rfl, hn⟩ := hl.isSlice
  rw [List.length_map] at hn
  subst hn
  refine call_of 4 (hI 11 (by decide) (by decide)) Tryz.func11 rfl fb11 rfl ?_
  refine cR ?_
  refine oO rfl (aC ?_)
  refine ops_nil ?_
  by_cases hl0 : l.length = 0
  · refine cR ?_
    refine oO rfl (op_buildSlice (c := []) H sl25 rfl rfl (by omega) (fun b11 s1 H => ?_))
    refine oO rfl (mS rfl ?_)
    refine oO rfl (op_appendNone' H sl25 un25 rfl rfl rfl (by have := (hl.kept H).elemsS; rw [hl0, List.length_eq_zero_iff.mp hl0] at this; rw [hl0]; exact this) (by decide) (by decide) (by omega) (fun s13 H => ?_))
    refine oO rfl (aS rfl ?_)
    refine ops_nil ?_
    refine cw_seq ?_
    refine cR ?_
    refine oO rfl (mS rfl ?_)
    refine oO rfl (op_len un25 rfl rfl rfl ?_)
    refine oO rfl (op_eql rfl rfl (fun h => ?_) (fun h => ?_))
    · refine ops_nil ?_
      refine cT rfl ?_
      refine cR ?_
      refine oO rfl (mI rfl ?_)
      refine oO rfl (mI rfl ?_)
      refine oO rfl (op_build (c := [.int _ _, .int _ _, .bool _, .slice _ _ _, .bool _, .slice _ _ _, .bool _, .slice _ _ _, .bool _, .slice _ _ _]) bf62 rfl ?_)
      refine oO rfl (op_buildSlice (c := [.int _ _, .int _ _, .bool _, .slice _ _ _, .bool _, .slice _ _ _, .bool _, .slice _ _ _, .bool _, .slice _ _ _]) H sl25 rfl rfl (by omega) (fun b20 s2 H => ?_))
      refine oO rfl (aS rfl ?_)
      refine ops_nil ?_
      refine cw_ret ?_
      refine seq_ret ?_
      refine ret_end ?_
      refine end_t ?_
      refine ⟨[_], [], [⟨at_, by_, false, default, false, default, false, default, false, default⟩], (H.sub (L' := [_]) (.cons_cons _ (List.nil_sublist _))).up (by omega), ?_, by simp, ?_⟩
      · exact spsG (l := [(⟨at_, by_, false, default, false, default, false, default, false, default⟩ : Sp)]) (cap := 2 * 1) (by simp)
      · intro x hx
        rw [List.mem_singleton] at hx
        subst hx
        exact ⟨⟨h2, h3⟩, .inl ⟨rfl, rfl, [], [], [], [], ⟨.nil 0 rfl rfl, by simp⟩, ⟨.nil 0 rfl rfl, by simp⟩, ⟨.nil 0 rfl rfl, by simp⟩, ⟨.nil 0 rfl rfl, by simp⟩⟩⟩
    · refine ops_nil ?_
      refine cE rfl ?_
      refine cw_skip ?_
      refine sN ?_
      exfalso
      omega
  · refine cR ?_
    refine oO rfl (op_buildSlice (c := []) H sl25 rfl rfl (by omega) (fun b11 s3 H => ?_))
    refine oO rfl (mS rfl ?_)
    refine oO rfl (op_append00 H sl25 un25 rfl rfl rfl (hl.kept H).elemsS (by omega) (sps_plain l) (sps_len l) (by omega) (by omega) (fun b13 s13 H => ?_))
    refine oO rfl (aS rfl ?_)
    refine ops_nil ?_
    refine cw_seq ?_
    refine cR ?_
    refine oO rfl (mS rfl ?_)
    refine oO rfl (op_len un25 rfl rfl rfl ?_)
    refine oO rfl (op_eql rfl rfl (fun h => ?_) (fun h => ?_))
    · refine ops_nil ?_
      refine cT rfl ?_
      exfalso
      omega
    · refine ops_nil ?_
      refine cE rfl ?_
      refine cw_skip ?_
      refine sN ?_
      refine cR ?_
      refine oO rfl (mI rfl ?_)
      refine oO rfl (mS rfl ?_)
      refine oO rfl (op_len un25 rfl rfl rfl ?_)
      refine oO rfl (oC rfl fc10 rfl ?_)
      obtain ⟨_, _, hr, rfl, rfl⟩ := around_ok (a := at_) (n := (l.length : Int)) hI h2 (by omega)
      refine ⟨_, _, hr, ?_⟩
      clear hr
      refine oO rfl (aI rfl ?_)
      refine ops_nil ?_
      refine cw_seq ?_
      have hkr := aroundZ_range (a := at_) (n := (l.length : Int)) (by omega)
      obtain ⟨m, hme⟩ : ∃ m : Nat, aroundZ at_ (l.length : Int) = (m : Int) := ⟨(aroundZ at_ (l.length : Int)).toNat, by omega⟩
      have hm : m < l.length := by omega
      rw [hme]
      refine cR ?_
      refine oO rfl (mI rfl ?_)
      refine oO rfl (oC rfl fc10 rfl ?_)
      obtain ⟨_, _, hr, rfl, rfl⟩ := around_ok (a := how) (n := 6) hI h1 (by decide)
      refine ⟨_, _, hr, ?_⟩
      clear hr
      refine ops_nil ?_
      refine cw_block ?_
      refine cR ?_
      refine oO rfl (op_eql rfl rfl (fun h => ?_) (fun h => ?_))
      · refine oO rfl (aB rfl ?_)
        refine ops_nil ?_
        refine cT rfl ?_
        refine cG ?_
        refine oO rfl (mS rfl ?_)
        refine oO rfl (mI rfl ?_)
        refine oO rfl (mI rfl ?_)
        refine oO rfl (op_indexS el25 rfl rfl (by omega) (by omega) ?_)
        refine oO rfl (fA of62_0 rfl ?_)
        refine oO rfl (op_store0 (c' := spsC (l.set m ⟨by_, (l.getD m default).p, (l.getD m default).n1, (l.getD m default).s1, (l.getD m default).n2, (l.getD m default).s2, (l.getD m default).n3, (l.getD m default).s3, (l.getD m default).n4, (l.getD m default).s4⟩)) H sz23 rfl rfl rfl rfl (sps_put (j := 0) hm (by omega) (fun B => rfl)) (by omega) (fun s33 H => ?_))
        refine ops_nil ?_
        refine blk_norm ?_
        refine sN ?_
        refine cR ?_
        refine oO rfl (mS rfl ?_)
        refine oO rfl (aS rfl ?_)
        refine ops_nil ?_
        refine cw_ret ?_
        refine ret_end ?_
        refine end_t ?_
        have hg := spsG (b := b13) (cap := 2 * l.length + 1) (l := (l.set m ⟨by_, (l.getD m default).p, (l.getD m default).n1, (l.getD m default).s1, (l.getD m default).n2, (l.getD m default).s2, (l.getD m default).n3, (l.getD m default).s3, (l.getD m default).n4, (l.getD m default).s4⟩)) (by simp; omega)
        simp only [List.length_set] at hg
        refine ⟨[_], [], (l.set m ⟨by_, (l.getD m default).p, (l.getD m default).n1, (l.getD m default).s1, (l.getD m default).n2, (l.getD m default).s2, (l.getD m default).n3, (l.getD m default).s3, (l.getD m default).n4, (l.getD m default).s4⟩), H.up (by omega), hg, by simp, ?_⟩
        intro x hx
        rcases List.mem_or_eq_of_mem_set hx with h | h
        · exact ⟨hin x h, .inr ⟨x, h, rfl, rfl, rfl, rfl, rfl, rfl⟩⟩
        · subst h
          exact ⟨(by exact ⟨h3, (hin (l.getD m default) (getD_mem hm)).2⟩), .inr ⟨(l.getD m default), getD_mem hm, rfl, rfl, rfl, rfl, rfl, rfl⟩⟩
      · refine oO rfl (aB rfl ?_)
        refine ops_nil ?_
        refine cE rfl ?_
        refine cR ?_
        refine oO rfl (op_eql rfl rfl (fun h => ?_) (fun h => ?_))
        · refine oO rfl (aB rfl ?_)
          refine ops_nil ?_
          refine cT rfl ?_
          refine cG ?_
          refine oO rfl (mS rfl ?_)
          refine oO rfl (mI rfl ?_)
          refine oO rfl (mI rfl ?_)
          refine oO rfl (op_indexS el25 rfl rfl (by omega) (by omega) ?_)
          refine oO rfl (fA of62_1 rfl ?_)
          refine oO rfl (op_store0 (c' := spsC (l.set m ⟨(l.getD m default).w, by_, (l.getD m default).n1, (l.getD m default).s1, (l.getD m default).n2, (l.getD m default).s2, (l.getD m default).n3, (l.getD m default).s3, (l.getD m default).n4, (l.getD m default).s4⟩)) H sz23 rfl rfl rfl rfl (sps_put (j := 1) hm (by omega) (fun B => rfl)) (by omega) (fun s33 H => ?_))
          refine ops_nil ?_
          refine blk_norm ?_
          refine sN ?_
          refine cR ?_
          refine oO rfl (mS rfl ?_)
          refine oO rfl (aS rfl ?_)
          refine ops_nil ?_
          refine cw_ret ?_
          refine ret_end ?_
          refine end_t ?_
          have hg := spsG (b := b13) (cap := 2 * l.length + 1) (l := (l.set m ⟨(l.getD m default).w, by_, (l.getD m default).n1, (l.getD m default).s1, (l.getD m default).n2, (l.getD m default).s2, (l.getD m default).n3, (l.getD m default).s3, (l.getD m default).n4, (l.getD m default).s4⟩)) (by simp; omega)
          simp only [List.length_set] at hg
          refine ⟨[_], [], (l.set m ⟨(l.getD m default).w, by_, (l.getD m default).n1, (l.getD m default).s1, (l.getD m default).n2, (l.getD m default).s2, (l.getD m default).n3, (l.getD m default).s3, (l.getD m default).n4, (l.getD m default).s4⟩), H.up (by omega), hg, by simp, ?_⟩
          intro x hx
          rcases List.mem_or_eq_of_mem_set hx with h | h
          · exact ⟨hin x h, .inr ⟨x, h, rfl, rfl, rfl, rfl, rfl, rfl⟩⟩
          · subst h
            exact ⟨(by exact ⟨(hin (l.getD m default) (getD_mem hm)).1, h3⟩), .inr ⟨(l.getD m default), getD_mem hm, rfl, rfl, rfl, rfl, rfl, rfl⟩⟩
        · refine oO rfl (aB rfl ?_)
          refine ops_nil ?_
          refine cE rfl ?_
          refine cR ?_
          refine oO rfl (op_eql rfl rfl (fun h => ?_) (fun h => ?_))
          · refine oO rfl (aB rfl ?_)
            refine ops_nil ?_
            refine cT rfl ?_
            refine cG ?_
            refine oO rfl (mS rfl ?_)
            refine oO rfl (mI rfl ?_)
            refine oO rfl (mI rfl ?_)
            refine oO rfl (oC rfl fc38 rfl ?_)
            obtain ⟨_, s9, hr, Dn, n1, s1, s2, n3, s3, s4, l1, l2, l3, l4, rfl, Hc, hd1, hd2, hd3, hd4⟩ := of05_ok (x := by_) (y := 0) hI H.fine h3 ⟨by decide, by decide⟩ (by have := H.most; omega)
            refine ⟨_, _, hr, ?_⟩
            clear hr
            have H := H.callE Hc
            clear Hc
            try simp only [List.cons_append, List.nil_append, List.append_assoc] at H
            refine oO rfl (op_indexS el25 rfl rfl (by omega) (by omega) ?_)
            refine oO rfl (fA of62_2 rfl ?_)
            refine oO rfl (op_store0 (c' := spsC (l.set m ⟨(l.getD m default).w, (l.getD m default).p, n1, s1, false, s2, n3, s3, false, s4⟩)) H sz60 rfl rfl rfl rfl (sps_put (j := 2) hm (by omega) (fun B => rfl)) (by omega) (fun s33 H => ?_))
            refine ops_nil ?_
            refine blk_norm ?_
            refine sN ?_
            refine cR ?_
            refine oO rfl (mS rfl ?_)
            refine oO rfl (aS rfl ?_)
            refine ops_nil ?_
            refine cw_ret ?_
            refine ret_end ?_
            refine end_t ?_
            have hg := spsG (b := b13) (cap := 2 * l.length + 1) (l := (l.set m ⟨(l.getD m default).w, (l.getD m default).p, n1, s1, false, s2, n3, s3, false, s4⟩)) (by simp; omega)
            simp only [List.length_set] at hg
            refine ⟨[_], Dn, (l.set m ⟨(l.getD m default).w, (l.getD m default).p, n1, s1, false, s2, n3, s3, false, s4⟩), H.up (by omega), hg, by simp, ?_⟩
            intro x hx
            rcases List.mem_or_eq_of_mem_set hx with h | h
            · exact ⟨hin x h, .inr ⟨x, h, rfl, rfl, rfl, rfl, rfl, rfl⟩⟩
            · subst h
              exact ⟨hin (l.getD m default) (getD_mem hm), .inl ⟨rfl, rfl, l1, l2, l3, l4, hd1, hd2, hd3, hd4⟩⟩
          · refine oO rfl (aB rfl ?_)
            refine ops_nil ?_
            refine cE rfl ?_
            refine cR ?_
            refine oO rfl (op_eql rfl rfl (fun h => ?_) (fun h => ?_))
            · refine oO rfl (aB rfl ?_)
              refine ops_nil ?_
              refine cT rfl ?_
              refine cG ?_
              refine oO rfl (mS rfl ?_)
              refine oO rfl (mS rfl ?_)
              refine oO rfl (op_len un25 rfl rfl rfl ?_)
              refine oO rfl (op_sub rfl rfl (by unfold In64; omega) ?_)
              refine oO rfl (op_sliceHi (m := l.length - 1) sl25 rfl rfl (by show ((l.length : Nat) : Int) - 1 = _; omega) H.own0 (by omega) ?_)
              refine oO rfl (aS rfl ?_)
              refine ops_nil ?_
              refine blk_norm ?_
              refine sN ?_
              refine cR ?_
              refine oO rfl (mS rfl ?_)
              refine oO rfl (aS rfl ?_)
              refine ops_nil ?_
              refine cw_ret ?_
              refine ret_end ?_
              refine end_t ?_
              have hg := (spsG (b := b13) (cap := 2 * l.length + 1) (l := l) (by omega)).take (m := l.length - 1) (by simp)
              rw [← List.map_take] at hg
              refine ⟨[_], [], l.take (l.length - 1), H.up (by omega), hg, by simp; omega, ?_⟩
              intro x hx
              exact ⟨hin x (List.mem_of_mem_take hx), .inr ⟨x, List.mem_of_mem_take hx, rfl, rfl, rfl, rfl, rfl, rfl⟩⟩
            · refine oO rfl (aB rfl ?_)
              refine ops_nil ?_
              refine cE rfl ?_
              refine cR ?_
              refine oO rfl (op_eql rfl rfl (fun h => ?_) (fun h => ?_))
              · refine oO rfl (aB rfl ?_)
                refine ops_nil ?_
                refine cT rfl ?_
                refine cG ?_
                refine oO rfl (mS rfl ?_)
                refine oO rfl (mS rfl ?_)
                refine oO rfl (mI rfl ?_)
                refine oO rfl (op_indexS el25 rfl rfl (by omega) (by omega) ?_)
                refine oO rfl (lN sh62 rfl H.own0 (sps_get hm (by omega)) ?_)
                refine oO rfl (op_buildSlice (c := [.int _ _, .int _ _, .bool _, .slice _ _ _, .bool _, .slice _ _ _, .bool _, .slice _ _ _, .bool _, .slice _ _ _]) H sl25 rfl rfl (by omega) (fun b63 s4 H => ?_))
                have hgt := H.own0
                have H := H.drop0
                refine oO rfl (op_append0 H sl25 un25 rfl rfl rfl (elems_all hgt rfl) (by rw [sps_len]) (by omega) rfl rfl (by omega) (by omega) (fun b64 s64 H => ?_))
                refine oO rfl (aS rfl ?_)
                refine ops_nil ?_
                refine blk_norm ?_
                refine sN ?_
                refine cR ?_
                refine oO rfl (mS rfl ?_)
                refine oO rfl (aS rfl ?_)
                refine ops_nil ?_
                refine cw_ret ?_
                refine ret_end ?_
                refine end_t ?_
                have hg := spsG (b := b64) (cap := 2 * (l.length + 1) + 1) (l := l ++ [(l.getD m default)]) (by simp; omega)
                rw [show spsC (l ++ [l.getD m default]) = spsC l ++ (l.getD m default).cells from flat_snoc, List.length_append] at hg
                refine ⟨[_], [], l ++ [(l.getD m default)], H.up (by omega), hg, by simp, ?_⟩
                intro x hx
                rcases List.mem_append.mp hx with h | h
                · exact ⟨hin x h, .inr ⟨x, h, rfl, rfl, rfl, rfl, rfl, rfl⟩⟩
                · rw [List.mem_singleton] at h
                  subst h
                  exact ⟨(by exact hin (l.getD m default) (getD_mem hm)), .inr ⟨(l.getD m default), getD_mem hm, rfl, rfl, rfl, rfl, rfl, rfl⟩⟩
              · refine oO rfl (aB rfl ?_)
                refine ops_nil ?_
                refine cE rfl ?_
                refine cR ?_
                refine oO rfl (op_eql rfl rfl (fun h => ?_) (fun h => ?_))
                · refine oO rfl (aB rfl ?_)
                  refine ops_nil ?_
                  refine cT rfl ?_
                  refine cw_draw [⟨0, 0, .light, [5, 9]⟩, ⟨1, 0, .light, [5, 9]⟩, ⟨2, 0, .light, [5, 9]⟩, ⟨3, 0, .light, [9]⟩, ⟨4, 8, .light, [9]⟩, ⟨5, 24, .light, [9]⟩, ⟨6, 0, .light, [5]⟩, ⟨7, 0, .light, [5]⟩, ⟨8, 192, .light, [5]⟩, ⟨9, 448, .light, [5]⟩, ⟨10, 1019, .light, []⟩, ⟨11, 2043, .whole, []⟩, ⟨12, 4095, .light, []⟩, ⟨13, 8191, .whole, []⟩] (by kernel_rfl) (by kernel_rfl) ?_
                  refine dL rfl rfl (mS rfl ⟨rfl, ?_⟩)
                  refine dL rfl rfl (mI rfl ⟨rfl, ?_⟩)
                  refine dL rfl rfl (mS rfl ⟨rfl, ?_⟩)
                  refine dL rfl rfl (mS rfl ⟨rfl, ?_⟩)
                  refine dL rfl rfl (op_indexS el25 rfl rfl (by omega) (by omega) ⟨rfl, ?_⟩)
                  refine dr_loadN rfl rfl sh62 rfl H.own0 (H.lim0 (by omega)) (sps_get (k := 0) (by omega) rfl) ?_
                  refine dL rfl rfl (mS rfl ⟨rfl, ?_⟩)
                  refine dL rfl rfl (mI rfl ⟨rfl, ?_⟩)
                  refine dL rfl rfl (op_indexS el25 rfl rfl (by omega) (by omega) ⟨rfl, ?_⟩)
                  refine dr_loadN rfl rfl sh62 rfl H.own0 (H.lim0 (by omega)) (sps_get hm (by omega)) ?_
                  refine dL rfl rfl (op_indexS el25 rfl rfl (by omega) (by omega) ⟨rfl, ?_⟩)
                  refine dr_store0 (c' := spsC (l.set m (l.getD 0 default))) (fr := []) H rfl rfl sz62 rfl rfl rfl rfl (sps_put (j := 0) hm (by omega) (fun B => rfl)) rfl (by intro p hp; cases hp) (by omega) (fun s77 H => ?_)
                  refine dL rfl rfl (op_indexS el25 rfl rfl (by omega) (by omega) ⟨rfl, ?_⟩)
                  refine dr_store0 (c' := spsC ((l.set m (l.getD 0 default)).set 0 (l.getD m default))) (fr := []) H rfl rfl sz62 rfl rfl rfl rfl (sps_put (j := 0) (by simp; omega) rfl (fun B => rfl)) rfl (by intro p hp; cases hp) (by omega) (fun s78 H => ?_)
                  refine draw_nil ?_
                  refine blk_norm ?_
                  refine sN ?_
                  refine cR ?_
                  refine oO rfl (mS rfl ?_)
                  refine oO rfl (aS rfl ?_)
                  refine ops_nil ?_
                  refine cw_ret ?_
                  refine ret_end ?_
                  refine end_t ?_
                  have hg := spsG (b := b13) (cap := 2 * l.length + 1) (l := ((l.set m (l.getD 0 default)).set 0 (l.getD m default))) (by simp; omega)
                  simp only [List.length_set] at hg
                  refine ⟨[_], [], ((l.set m (l.getD 0 default)).set 0 (l.getD m default)), H.up (by omega), hg, by simp, ?_⟩
                  intro x hx
                  rcases List.mem_or_eq_of_mem_set hx with h | h
                  · rcases List.mem_or_eq_of_mem_set h with h | h
                    · exact ⟨hin x h, .inr ⟨x, h, rfl, rfl, rfl, rfl, rfl, rfl⟩⟩
                    · subst h
                      exact ⟨hin _ (getD_mem (by omega)), .inr ⟨l.getD 0 default, getD_mem (by omega), rfl, rfl, rfl, rfl, rfl, rfl⟩⟩
                  · subst h
                    exact ⟨(by exact hin (l.getD m default) (getD_mem hm)), .inr ⟨(l.getD m default), getD_mem hm, rfl, rfl, rfl, rfl, rfl, rfl⟩⟩
                · refine oO rfl (aB rfl ?_)
                  refine ops_nil ?_
                  refine cE rfl ?_
                  refine cw_skip ?_
                  refine blk_norm ?_
                  refine sN ?_
                  refine cR ?_
                  refine oO rfl (mS rfl ?_)
                  refine oO rfl (aS rfl ?_)
                  refine ops_nil ?_
                  refine cw_ret ?_
                  refine ret_end ?_
                  refine end_t ?_
                  exfalso
                  have := aroundZ_range (a := how) (n := 6) (by decide)
                  omega

end Go.Proofs.YtdejleegamcioaaGreat
namespace Go.Proofs.YtdejleegamcioaaGreat
open Go Go.M

structure Ent where
  k : Int
  n : Int
  x : Sp
def Ent.val (e : Ent) : Value := .agg ⟨.int .i64 e.n :: e.x.cells⟩
def ents : Nat → List Ent → List MapEntry
  | _, [] => []
  | i, e :: E => { key := .int .i64 e.k, val := e.val, born := i } :: ents (i + 1) E
/-- A map with these entries. -/
def mapO (E : List Ent) : MObj := .map ⟨ents 0 E⟩ E.length
def findE (E : List Ent) (k : Int) : Option Ent := E.find? fun e => decide (e.k = k)

theorem ents_append : ∀ (i : Nat) (E : List Ent) (e : Ent), ents i (E ++ [e]) = ents i E ++ [{ key := .int .i64 e.k, val := e.val, born := i + E.length }]
  | i, [], e => rfl
  | i, a :: E, e => by
    simp only [List.cons_append, ents, ents_append (i + 1) E e, List.length_cons]
    congr 4
    omega
theorem same_int (a b : Int) : Instr.sameNow (.int .i64) (.int .i64 a) (.int .i64 b) = some (decide (a = b)) := by
  simp only [Instr.sameNow, if_true]
  congr 1
theorem find_none {k : Int} : ∀ {E : List Ent} (i j : Nat), findE E k = none → Instr.findNow (.int .i64) (.int .i64 k) (ents i E) j = some none
  | [], _, _, _ => rfl
  | e :: E, i, j, h => by
    simp only [findE, List.find?_cons] at h
    split at h
    · cases h
    · next hk =>
      simp only [ents, Instr.findNow, same_int]
      have : decide (k = e.k) = false := by
        simp only [decide_eq_false_iff_not] at hk ⊢
        omega
      rw [this]
      exact find_none (i + 1) (j + 1) h
theorem find_some {k : Int} {e : Ent} : ∀ {E : List Ent} (i j : Nat), findE E k = some e → ∃ m, Instr.findNow (.int .i64) (.int .i64 k) (ents i E) j = some (some (m, e.val))
  | [], _, _, h => by cases h
  | a :: E, i, j, h => by
    simp only [findE, List.find?_cons] at h
    split at h
    · next hk =>
      rw [Option.some.injEq] at h
      subst h
      simp only [ents, Instr.findNow, same_int]
      have : decide (k = a.k) = true := by
        simp only [decide_eq_true_eq] at hk ⊢
        omega
      rw [this]
      exact ⟨j, rfl⟩
    · next hk =>
      simp only [ents, Instr.findNow, same_int]
      have : decide (k = a.k) = false := by
        simp only [decide_eq_false_iff_not] at hk ⊢
        omega
      rw [this]
      exact find_some (i + 1) (j + 1) h

section
variable {P : Program} {I : Table} {F : FF} {s : St} {Q : FF → St → Prop} {d : Option Tmp} {ty : TypeId} {pos : String} {af : Array Edge} {g : Option (Nat × Bool)} {W : List Nat} {s0 : St} {L : Hp'} {n : Nat}

theorem op_lookupSome {t kt et : TypeId} {m k : Operand} {r : Nat} {E : List Ent} {x : Int} {e : Ent} {ok : Bool} (hu : P.underlying t = some (.map kt et)) (hk : P.underlying kt = some (.int .i64)) (hm : evalF F m = .map (some r)) (hx : evalF F k = .int .i64 x) (hg : s.get r = some (mapO E)) (hf : findE E x = some e)
    (h : Q (upd F d (if ok then .tuple ⟨[.agg ⟨.int .i64 e.n :: e.x.cells⟩, .bool true]⟩ else .agg ⟨.int .i64 e.n :: e.x.cells⟩)) s) : OpW P I ⟨d, .lookup t m k ok, ty, pos, af, g⟩ F s Q := by
  obtain ⟨j, hj⟩ := find_some (E := E) 0 0 hf
  refine op_val (v := _) (s' := s) ?_ h
  simp only [stepM, lookupM, hu, hk, entriesM, hm, hg, mapO, hx, keyD, hj, okPair]
  cases ok <;> rfl
def zeroV (P : Program) (t : TypeId) : Option Value :=
  match P.info? t with
  | some i => match i.zero with
    | some z => match plainZ z with
      | true => some z
      | false => none
    | none => none
  | none => none
theorem op_lookupNone {t kt et : TypeId} {m k : Operand} {r : Nat} {E : List Ent} {x : Int} {z : Value} {ok : Bool} (hu : P.underlying t = some (.map kt et)) (hk : P.underlying kt = some (.int .i64)) (hz : zeroV P et = some z) (hm : evalF F m = .map (some r)) (hx : evalF F k = .int .i64 x) (hg : s.get r = some (mapO E)) (hf : findE E x = none)
    (h : Q (upd F d (if ok then .tuple ⟨[z, .bool false]⟩ else z)) s) : OpW P I ⟨d, .lookup t m k ok, ty, pos, af, g⟩ F s Q := by
  have hj := find_none (E := E) 0 0 hf
  refine op_val (v := _) (s' := s) ?_ h
  simp only [zeroV] at hz
  split at hz
  · next i hi =>
    split at hz
    · next z' hz' =>
      split at hz
      · next hp =>
        cases hz
        simp only [stepM, lookupM, hu, hk, entriesM, hm, hg, mapO, hx, keyD, hj, hi, hz', hp, okPair]
        cases ok <;> rfl
      · cases hz
    · cases hz
  · cases hz
theorem update_new {t kt et : TypeId} {m k v : Operand} {r : Nat} {E : List Ent} {e : Ent} (hu : P.underlying t = some (.map kt et)) (hk : P.underlying kt = some (.int .i64)) (hm : evalF F m = .map (some r)) (hx : evalF F k = .int .i64 e.k) (hv : evalF F v = .agg ⟨.int .i64 e.n :: e.x.cells⟩) (hg : s.get r = some (mapO E)) (hmay : s.may r = true) (hf : findE E e.k = none) :
    stepM P (evalF F) (.mapUpdate t m k v) s = .ok .skip (s.put r (some (mapO (E ++ [e])))) := by
  have hj := find_none (E := E) 0 0 hf
  simp only [stepM, updateM, hu, hm, hk, hg, mapO, hx, keyD, hj, setM, hmay, hv, ents_append, List.length_append, List.length_singleton, Nat.zero_add, List.push_toArray, Ent.val]
theorem op_update0 {t kt et : TypeId} {m k v : Operand} {r : Nat} {E : List Ent} {e : Ent} (H : HL W s0 s ((r, mapO E) :: L) n) (hu : P.underlying t = some (.map kt et)) (hk : P.underlying kt = some (.int .i64)) (hm : evalF F m = .map (some r)) (hx : evalF F k = .int .i64 e.k) (hv : evalF F v = .agg ⟨.int .i64 e.n :: e.x.cells⟩) (hf : findE E e.k = none) (hr : s0.next + n ≤ limit)
    (h : ∀ s', HL W s0 s' ((r, mapO (E ++ [e])) :: L) n → Q (upd F d undef) s') : OpW P I ⟨d, .mapUpdate t m k v, ty, pos, af, g⟩ F s Q :=
  op_none (update_new hu hk hm hx hv H.own0 (H.own (r, mapO E) (by simp)).2.2.1 hf) (h _ (H.put0 _ hr))
theorem op_update1 {p0 : Nat × MObj} {t kt et : TypeId} {m k v : Operand} {r : Nat} {E : List Ent} {e : Ent} (H : HL W s0 s (p0 :: (r, mapO E) :: L) n) (hu : P.underlying t = some (.map kt et)) (hk : P.underlying kt = some (.int .i64)) (hm : evalF F m = .map (some r)) (hx : evalF F k = .int .i64 e.k) (hv : evalF F v = .agg ⟨.int .i64 e.n :: e.x.cells⟩) (hf : findE E e.k = none) (hr : s0.next + n ≤ limit)
    (h : ∀ s', HL W s0 s' (p0 :: (r, mapO (E ++ [e])) :: L) n → Q (upd F d undef) s') : OpW P I ⟨d, .mapUpdate t m k v, ty, pos, af, g⟩ F s Q :=
  op_none (update_new hu hk hm hx hv H.own1 (H.own (r, mapO E) (by simp)).2.2.1 hf) (h _ (H.put1 _ hr))
theorem op_update2 {p0 p1 : Nat × MObj} {t kt et : TypeId} {m k v : Operand} {r : Nat} {E : List Ent} {e : Ent} (H : HL W s0 s (p0 :: p1 :: (r, mapO E) :: L) n) (hu : P.underlying t = some (.map kt et)) (hk : P.underlying kt = some (.int .i64)) (hm : evalF F m = .map (some r)) (hx : evalF F k = .int .i64 e.k) (hv : evalF F v = .agg ⟨.int .i64 e.n :: e.x.cells⟩) (hf : findE E e.k = none) (hr : s0.next + n ≤ limit)
    (h : ∀ s', HL W s0 s' (p0 :: p1 :: (r, mapO (E ++ [e])) :: L) n → Q (upd F d undef) s') : OpW P I ⟨d, .mapUpdate t m k v, ty, pos, af, g⟩ F s Q :=
  op_none (update_new hu hk hm hx hv H.own2 (H.own (r, mapO E) (by simp)).2.2.1 hf) (h _ (H.put2 _ hr))

/-- A call that writes blocks of ours: those come back changed. -/
theorem _root_.Go.M.HL.callW {W W' : List Nat} {s0 s s' : St} {A L L' : Hp'} {n k : Nat} (H : HL W s0 s (A ++ L) n) (H' : HL W' s s' L' k) (hW : ∀ b, b ∈ W' → ∃ o, (b, o) ∈ A) (hA : ∀ p, p ∈ A → p.1 ∈ W') : HL W s0 s' (L' ++ L) (n + k) := by
  have hm := H.most
  have hm' := H'.most
  have hle := H.le
  have hle' := H'.le
  have hd := H.dist
  rw [List.pairwise_append] at hd
  have hnotW : ∀ p, p ∈ L → p.1 ∉ W' := fun p hp hw => by
    obtain ⟨o, ho⟩ := hW _ hw
    exact hd.2.2 (p.1, o) ho p hp rfl
  refine ⟨H'.bar.trans H.bar, H'.prot.trans H.prot, H.wfb, H.wfp, by omega, by omega, fun p hp => ?_, ?_, fun b hb hw => ?_⟩
  · rcases List.mem_append.mp hp with hp | hp
    · obtain ⟨h1, h2, h3, h4⟩ := H'.own p hp
      refine ⟨h1, h2, h3, ?_⟩
      rcases h4 with h | h
      · exact .inl (by omega)
      · obtain ⟨o, ho⟩ := hW _ h
        exact (H.own (p.1, o) (by simp [ho])).2.2.2
    · obtain ⟨h1, h2, h3, h4⟩ := H.own p (by simp [hp])
      refine ⟨by rw [H'.kept _ h2 (hnotW p hp)]; exact h1, by omega, ?_, h4⟩
      rw [St.may_eq H'.bar H'.prot]; exact h3
  · rw [List.pairwise_append]
    refine ⟨H'.dist, hd.2.1, fun a ha c hc => ?_⟩
    have h1 := (H'.own a ha).2.2.2
    have h2 := (H.own c (by simp [hc])).2.1
    rcases h1 with h | h
    · omega
    · intro e
      rw [e] at h
      exact hnotW c hc h
  · rw [H'.kept b (by omega) (fun hw' => ?_)]
    · exact H.kept b hb hw
    · obtain ⟨o, ho⟩ := hW _ hw'
      have := (H.own (b, o) (by simp [ho])).2.2.2
      rcases this with h | h
      · simp only at h; omega
      · exact hw h
end
end Go.Proofs.YtdejleegamcioaaGreat
namespace Go.Proofs.YtdejleegamcioaaGreat
open Go Go.M

/-! ### Sets -/
theorem bv_part {W P : BitVec 64} (h : P &&& ~~~ W = 0#64) (hw : W.toNat < 65536) : P.toNat + (W &&& ~~~ P).toNat = W.toNat := by
  have h1 : W &&& P = P := by
    have e : P = (P &&& W) ||| (P &&& ~~~ W) := by
      apply BitVec.eq_of_getLsbD_eq
      intro i hi
      simp only [BitVec.getLsbD_or, BitVec.getLsbD_and, BitVec.getLsbD_not, hi, decide_true, Bool.true_and]
      cases P.getLsbD i <;> cases W.getLsbD i <;> rfl
    rw [h] at e
    rw [BitVec.and_comm]
    conv => rhs; rw [e]
    simp
  have h2 : (W &&& P) + (W &&& ~~~ P) = W := by
    have hz : (W &&& P) &&& (W &&& ~~~ P) = 0#64 := by
      apply BitVec.eq_of_getLsbD_eq
      intro i hi
      simp only [BitVec.getLsbD_and, BitVec.getLsbD_not, hi, decide_true, Bool.true_and, BitVec.getLsbD_zero]
      cases P.getLsbD i <;> cases W.getLsbD i <;> rfl
    rw [BitVec.add_eq_or_of_and_eq_zero _ _ hz]
    apply BitVec.eq_of_getLsbD_eq
    intro i hi
    simp only [BitVec.getLsbD_or, BitVec.getLsbD_and, BitVec.getLsbD_not, hi, decide_true, Bool.true_and]
    cases P.getLsbD i <;> cases W.getLsbD i <;> rfl
  rw [h1] at h2
  have hP : P.toNat ≤ W.toNat := by
    rw [← h1, BitVec.toNat_and]; exact Nat.and_le_left
  have hR : (W &&& ~~~ P).toNat ≤ W.toNat := by rw [BitVec.toNat_and]; exact Nat.and_le_left
  have h3 : (P + (W &&& ~~~ P)).toNat = W.toNat := by rw [h2]
  rw [BitVec.toNat_add, Nat.mod_eq_of_lt (by omega)] at h3
  exact h3

theorem wrap_zero {n : Nat} (h : n < 18446744073709551616) (hz : IntKind.i64.wrap (n : Int) = 0) : n = 0 := by
  unfold IntKind.wrap at hz
  simp only [show IntKind.i64.bits = 64 from rfl, show IntKind.i64.signed = true from rfl, Bool.true_and] at hz
  split at hz <;> omega

theorem split_facts {w p : Int} (h : splitB w p = true) (hp : p < 9223372036854775808) : 0 < p ∧ p < w ∧ 0 < andNotI w p ∧ andNotI w p < w ∧ w < 65536 ∧ andNotI w p = w - p := by
  simp only [splitB, Bool.and_eq_true, decide_eq_true_eq] at h
  obtain ⟨⟨⟨⟨h1, h2⟩, h3⟩, h4⟩, h5⟩ := h
  obtain ⟨a, rfl⟩ := Int.eq_ofNat_of_zero_le (Int.le_of_lt h1)
  obtain ⟨b, rfl⟩ := Int.eq_ofNat_of_zero_le (Int.le_of_lt h3)
  have ha := ofInt_nat (a := a) (by omega)
  have hb := ofInt_nat (a := b) (by omega)
  have hz : BitVec.ofInt 64 (b : Int) &&& ~~~ BitVec.ofInt 64 (a : Int) = 0#64 := by
    have := wrap_zero (BitVec.isLt _) h4
    exact BitVec.eq_of_toNat_eq (by rw [this]; rfl)
  have hs := bv_part hz (by rw [ha]; omega)
  rw [ha, hb] at hs
  have hr : andNotI (a : Int) (b : Int) = ((a : Int) - b) := by
    unfold andNotI bitsI
    simp only
    rw [wrap_in ⟨by omega, by omega⟩]
    omega
  rw [hr]
  omega

/-! ### The recursion -/
section
variable (js : List (Int × Int)) (bad : Int) (may : List Sp)

def stepB (v : Int → Int) (S : Int) (acc : Int × Sp) (m : Sp) : Int × Sp :=
  if m.w ≠ S then acc
  else if v m.p < 65536 ∧ v (andNotI S m.p) < 65536 ∧ 1 + v m.p + v (andNotI S m.p) < acc.1 then (1 + v m.p + v (andNotI S m.p), m)
  else acc
def bst : Nat → Int → Int × Sp
  | 0, _ => (0, default)
  | f + 1, S => if needsB S bad 0 js = true then may.foldl (stepB (fun x => (bst f x).1) S) (65536, default) else (0, default)
/-- The least number of splits of a set, and the first of them. -/
def bb (S : Int) : Int × Sp := bst js bad may (S.toNat + 1) S

/-- All splits are some, of pieces that are there. -/
def MayOK : Prop := ∀ m ∈ may, splitB m.w m.p = true ∧ m.p < 9223372036854775808

variable {js bad may}
theorem stepB_congr {v v' : Int → Int} {S : Int} {acc : Int × Sp} {m : Sp} (h : m.w = S → v m.p = v' m.p ∧ v (andNotI S m.p) = v' (andNotI S m.p)) : stepB v S acc m = stepB v' S acc m := by
  unfold stepB
  by_cases hw : m.w = S
  · rw [(h hw).1, (h hw).2]
  · rw [if_pos hw, if_pos hw]
theorem foldl_congr {v v' : Int → Int} {S : Int} : ∀ {l : List Sp} {acc : Int × Sp}, (∀ m ∈ l, m.w = S → v m.p = v' m.p ∧ v (andNotI S m.p) = v' (andNotI S m.p)) → l.foldl (stepB v S) acc = l.foldl (stepB v' S) acc
  | [], _, _ => rfl
  | m :: l, acc, h => by
    simp only [List.foldl_cons]
    rw [stepB_congr (h m (by simp)), foldl_congr fun x hx => h x (by simp [hx])]
theorem bst_fuel (hm : MayOK may) : ∀ (f f' : Nat) (S : Int), 0 < S → S.toNat < f → S.toNat < f' → bst js bad may f S = bst js bad may f' S
  | 0, _, S, _, h, _ => by omega
  | _, 0, S, _, _, h => by omega
  | f + 1, f' + 1, S, h0, h1, h2 => by
    simp only [bst]
    split
    · refine foldl_congr fun m hmm hw => ?_
      obtain ⟨hs, hp⟩ := hm m hmm
      obtain ⟨a1, a2, a3, a4, a5, a6⟩ := split_facts hs hp
      subst hw
      exact ⟨by rw [bst_fuel hm f f' m.p a1 (by omega) (by omega)], by rw [bst_fuel hm f f' (andNotI m.w m.p) a3 (by omega) (by omega)]⟩
    · rfl
theorem bb_eq (hm : MayOK may) {S : Int} (h0 : 0 < S) : bb js bad may S = if needsB S bad 0 js = true then may.foldl (stepB (fun x => (bb js bad may x).1) S) (65536, default) else (0, default) := by
  show bst js bad may (S.toNat + 1) S = _
  rw [bst]
  split
  · refine foldl_congr fun m hmm hw => ?_
    obtain ⟨hs, hp⟩ := hm m hmm
    obtain ⟨a1, a2, a3, a4, a5, a6⟩ := split_facts hs hp
    subst hw
    exact ⟨by rw [bst_fuel hm m.w.toNat (m.p.toNat + 1) m.p a1 (by omega) (by omega)]; rfl, by rw [bst_fuel hm m.w.toNat ((andNotI m.w m.p).toNat + 1) (andNotI m.w m.p) a3 (by omega) (by omega)]; rfl⟩
  · rfl

theorem stepB_range {v : Int → Int} {S : Int} {acc : Int × Sp} {m : Sp} (hv : ∀ x, 0 ≤ v x) (h : 0 ≤ acc.1 ∧ acc.1 ≤ 65536) : 0 ≤ (stepB v S acc m).1 ∧ (stepB v S acc m).1 ≤ 65536 := by
  unfold stepB
  have h1 := hv m.p
  have h2 := hv (andNotI S m.p)
  split
  · exact h
  · split
    · next hc => simp only; omega
    · exact h
theorem foldl_range {v : Int → Int} {S : Int} (hv : ∀ x, 0 ≤ v x) : ∀ {l : List Sp} {acc : Int × Sp}, (0 ≤ acc.1 ∧ acc.1 ≤ 65536) → 0 ≤ (l.foldl (stepB v S) acc).1 ∧ (l.foldl (stepB v S) acc).1 ≤ 65536
  | [], _, h => h
  | m :: l, acc, h => by
    simp only [List.foldl_cons]
    exact foldl_range hv (stepB_range hv h)
theorem bst_range : ∀ (f : Nat) (S : Int), 0 ≤ (bst js bad may f S).1 ∧ (bst js bad may f S).1 ≤ 65536
  | 0, _ => by simp [bst]
  | f + 1, S => by
    simp only [bst]
    split
    · exact foldl_range (fun x => (bst_range f x).1) (by simp)
    · simp
theorem bb_range (S : Int) : 0 ≤ (bb js bad may S).1 ∧ (bb js bad may S).1 ≤ 65536 := bst_range _ _

/-! ### What is known -/
def keysE (E : List Ent) : List Int := E.map Ent.k
structure Good (js : List (Int × Int)) (bad : Int) (may : List Sp) (E : List Ent) : Prop where
  nodup : (keysE E).Nodup
  val : ∀ e ∈ E, (e.n, e.x) = bb js bad may e.k
  clo : ∀ e ∈ E, needsB e.k bad 0 js = true → ∀ m ∈ may, m.w = e.k → m.p ∈ keysE E ∧ andNotI e.k m.p ∈ keysE E
theorem find_of_key {E : List Ent} {k : Int} (h : k ∈ keysE E) : ∃ e, findE E k = some e := by
  obtain ⟨e, he, rfl⟩ := List.mem_map.mp h
  unfold findE
  cases hf : E.find? (fun x => decide (x.k = e.k)) with
  | some x => exact ⟨x, rfl⟩
  | none => rw [List.find?_eq_none] at hf; exact absurd (by simp) (hf e he)
theorem of_find {E : List Ent} {k : Int} {e : Ent} (h : findE E k = some e) : e ∈ E ∧ e.k = k := by
  unfold findE at h
  exact ⟨List.mem_of_find?_eq_some h, by simpa using List.find?_some h⟩
theorem not_key {E : List Ent} {k : Int} (h : findE E k = none) : k ∉ keysE E := fun hk => by
  obtain ⟨e, he⟩ := find_of_key hk
  rw [h] at he
  cases he
theorem find_none_of {E : List Ent} {k : Int} (h : k ∉ keysE E) : findE E k = none := by
  cases hf : findE E k with
  | none => rfl
  | some e => exact absurd (List.mem_map.mpr ⟨e, (of_find hf).1, (of_find hf).2⟩) h
theorem Good.add {E : List Ent} (h : Good js bad may E) {e : Ent} (hn : e.k ∉ keysE E) (hv : (e.n, e.x) = bb js bad may e.k) (hc : needsB e.k bad 0 js = true → ∀ m ∈ may, m.w = e.k → m.p ∈ keysE E ∧ andNotI e.k m.p ∈ keysE E) : Good js bad may (E ++ [e]) := by
  have hk : keysE (E ++ [e]) = keysE E ++ [e.k] := by simp [keysE]
  refine ⟨?_, fun x hx => ?_, fun x hx hnd m hm hw => ?_⟩
  · rw [hk, List.nodup_append]
    refine ⟨h.nodup, by simp, fun a ha b hb => ?_⟩
    rw [List.mem_singleton] at hb
    subst hb
    exact fun e => hn (e ▸ ha)
  · rcases List.mem_append.mp hx with hx | hx
    · exact h.val x hx
    · rw [List.mem_singleton] at hx; subst hx; exact hv
  · rw [hk]
    rcases List.mem_append.mp hx with hx | hx
    · obtain ⟨h1, h2⟩ := h.clo x hx hnd m hm hw
      exact ⟨List.mem_append_left _ h1, List.mem_append_left _ h2⟩
    · rw [List.mem_singleton] at hx; subst hx
      obtain ⟨h1, h2⟩ := hc hnd m hm hw
      exact ⟨List.mem_append_left _ h1, List.mem_append_left _ h2⟩

/-! ### How many blocks it makes -/
def tbs (t : Int → Nat) (S : Int) : List Sp → Nat
  | [] => 0
  | m :: l => (if m.w = S then t m.p + t (andNotI S m.p) else 0) + tbs t S l
def tb (may : List Sp) : Nat → Int → Nat
  | 0, _ => 0
  | f + 1, S => 60 + may.length + tbs (tb may f) S may
theorem tbs_append (t : Int → Nat) (S : Int) : ∀ (l r : List Sp), tbs t S (l ++ r) = tbs t S l + tbs t S r
  | [], r => by simp [tbs]
  | m :: l, r => by simp only [List.cons_append, tbs, tbs_append t S l r]; omega
end
end Go.Proofs.YtdejleegamcioaaGreat
namespace Go.Proofs.YtdejleegamcioaaGreat
open Go Go.M
section
variable (js : List (Int × Int)) (bad : Int) (may : List Sp)
inductive Rch (w : Int) : Int → Prop
  | self : Rch w w
  | part {S : Int} {m : Sp} (h : Rch w S) (hn : needsB S bad 0 js = true) (hm : m ∈ may) (hw : m.w = S) : Rch w m.p
  | rest {S : Int} {m : Sp} (h : Rch w S) (hn : needsB S bad 0 js = true) (hm : m ∈ may) (hw : m.w = S) : Rch w (andNotI S m.p)
variable {js bad may}
theorem Rch.trans {a b c : Int} (h : Rch js bad may a b) (h' : Rch js bad may b c) : Rch js bad may a c := by
  induction h' with
  | self => exact h
  | part _ hn hm hw ih => exact .part ih hn hm hw
  | rest _ hn hm hw ih => exact .rest ih hn hm hw
end
end Go.Proofs.YtdejleegamcioaaGreat
namespace Go.Proofs.YtdejleegamcioaaGreat
open Go Go.M
abbrev ptr (b : Nat) : Value := .pointer (some ⟨b, 0, none⟩)
/-- What the closures see: the map, the joins, the bad ones, the splits. -/
structure OfSt (s : St) (r bK bJ bB bM bF : Nat) (vj : Value) (bad : Int) (vm : Value) (js : List (Int × Int)) (may : List Sp) (E : List Ent) : Prop where
  gK : s.get bK = some (.cells [.map (some r)] 96)
  lK : bK < s.next
  gJ : s.get bJ = some (.cells [vj] 24)
  lJ : bJ < s.next
  gB : s.get bB = some (.cells [.int .i64 bad] 23)
  lB : bB < s.next
  gM : s.get bM = some (.cells [vm] 25)
  lM : bM < s.next
  gF : s.get bF = some (.cells [.func (.func 41) #[] #[ptr bK, ptr bJ, ptr bB, ptr bM, ptr bF]] 97)
  lF : bF < s.next
  gR : s.get r = some (mapO E)
  lR : r < s.next
  mR : s.may r = true
  sJ : Sl s 30 2 vj (js.map jc)
  sM : Sl s 62 10 vm (may.map Sp.cells)
section
variable {s s' : St} {r bK bJ bB bM bF : Nat} {vj vm : Value} {bad : Int} {js : List (Int × Int)} {may : List Sp} {E E' : List Ent} {L : Hp'} {n : Nat}
theorem oldW (H : HL [r] s s' L n) (hr : s.get r = some (mapO E)) {b : Nat} {c : List Value} {e : TypeId} (hb : b < s.next) (hg : s.get b = some (.cells c e)) : s'.get b = some (.cells c e) := by
  rw [H.kept b hb (by
    intro h
    rw [List.mem_singleton] at h
    subst h
    rw [hr] at hg
    cases hg)]
  exact hg
theorem Sl.keptW {e : TypeId} {sz : Nat} {v : Value} {es : List (List Value)} (h : Sl s e sz v es) (H : HL [r] s s' L n) (hr : s.get r = some (mapO E)) : Sl s' e sz v es := by
  cases h with
  | nil c hv hl => exact .nil c hv hl
  | block b off cap c hv hg hb hcap hc => exact .block b off cap c hv (oldW H hr hb hg) (by have := H.le; omega) hcap hc
/-- What is seen later: the map alone is another. -/
theorem OfSt.later (h : OfSt s r bK bJ bB bM bF vj bad vm js may E) (H : HL [r] s s' L n) (hE : (r, mapO E') ∈ L) : OfSt s' r bK bJ bB bM bF vj bad vm js may E' := by
  have hle := H.le
  have ho := H.own _ hE
  exact ⟨oldW H h.gR h.lK h.gK, by have := h.lK; omega, oldW H h.gR h.lJ h.gJ, by have := h.lJ; omega, oldW H h.gR h.lB h.gB, by have := h.lB; omega, oldW H h.gR h.lM h.gM, by have := h.lM; omega, oldW H h.gR h.lF h.gF, by have := h.lF; omega, ho.1, ho.2.1, ho.2.2.1, h.sJ.keptW H h.gR, h.sM.keptW H h.gR⟩
theorem OfSt.hl (h : OfSt s r bK bJ bB bM bF vj bad vm js may E) (hf : Fine s) : HL [r] s s [(r, mapO E)] 0 :=
  ⟨rfl, rfl, hf.wfb, hf.wfp, Nat.le_refl _, Nat.le_refl _, fun p hp => by
    rw [List.mem_singleton] at hp
    subst hp
    exact ⟨h.gR, h.lR, h.mR, .inr (by simp)⟩, by simp, fun _ _ _ => rfl⟩
theorem Sl.heap {s1 s2 : St} {e : TypeId} {sz : Nat} {v : Value} {es : List (List Value)} (h : Sl s1 e sz v es) (hh : s2.heap = s1.heap) (hn : s2.next = s1.next) : Sl s2 e sz v es := by
  cases h with
  | nil c hv hl => exact .nil c hv hl
  | block b off cap c hv hg hb hcap hc => exact .block b off cap c hv (by simp only [St.get, hh] at hg ⊢; exact hg) (by rw [hn]; exact hb) hcap hc
/-- The same heap, with fewer blocks that may be written. -/
theorem OfSt.narrow (h : OfSt s r bK bJ bB bM bF vj bad vm js may E) {X : List Nat} (hX : r ∉ X) : OfSt { s with prot := X ++ s.prot } r bK bJ bB bM bF vj bad vm js may E := by
  refine ⟨h.gK, h.lK, h.gJ, h.lJ, h.gB, h.lB, h.gM, h.lM, h.gF, h.lF, h.gR, h.lR, ?_, h.sJ.heap rfl rfl, h.sM.heap rfl rfl⟩
  have hm := h.mR
  simp only [St.may, Bool.and_eq_true, Bool.not_eq_true', Bool.eq_false_iff, ne_eq, List.any_eq_true, not_exists, not_and] at hm ⊢
  refine ⟨hm.1, fun p hp he => ?_⟩
  rcases List.mem_append.mp hp with hp | hp
  · exact hX ((Nat.eq_of_beq_eq_true he) ▸ hp)
  · exact hm.2 p hp he
theorem Fine.narrow {s : St} (h : Fine s) {X : List Nat} (hX : ∀ p ∈ X, p < s.next) : Fine { s with prot := X ++ s.prot } :=
  ⟨h.wfb, fun p hp => by
    rcases List.mem_append.mp hp with hp | hp
    · exact hX p hp
    · exact h.wfp p hp⟩
end
end Go.Proofs.YtdejleegamcioaaGreat
