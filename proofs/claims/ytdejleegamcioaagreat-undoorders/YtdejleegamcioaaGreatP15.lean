/- The reference of integers: division by one. -/
/- The reference of integers: division by one. -/
/- The reference of rational numbers and of vectors: whole numbers. -/
import Derived.Test.YtdejleegamcioaaGreatP14
namespace Go.Proofs.YtdejleegamcioaaGreat
open Go Go.M
theorem fb306 : yw Tryz.f306 (Tryz.f306.body.getD .skip) 2 = true := by kernel_rfl
theorem fc113 : yk Tryz.prog 113 = true := by kernel_rfl
theorem fc116 : yk Tryz.prog 116 = true := by kernel_rfl
theorem SlIn.isSlice {D : Hp'} {v : Value} {l : List Int} (h : SlIn D v l) : ∃ a n c, v = .slice a n c ∧ n = l.length := by
 cases h with
 | nil c hv hl => exact ⟨_, _, _, hv, by rw [hl]; rfl⟩
 | block b off cap c hv => exact ⟨_, _, _, hv, rfl⟩
theorem dgs_int {x : Int} (h0 : 0 ≤ x) (h1 : x < 1000000000) : dgs 3 x.natAbs = if x = 0 then [] else [x] := by
 rw [dgs_small (by omega)]
 by_cases h : x = 0
 ·subst h; rfl
 ·rw [if_neg (by omega), if_neg h]
  congr 1
  omega
theorem cmp_small {x y : Int} (hx0 : 0 ≤ x) (hx1 : x < 1000000000) (hy0 : 0 ≤ y) (hy1 : y < 1000000000) : cmpZ (dgs 3 x.natAbs) (dgs 3 y.natAbs) = if x < y then -1 else if y < x then 1 else 0 := by
 rw [dgs_int hx0 hx1, dgs_int hy0 hy1]
 by_cases hx : x = 0 <;> by_cases hy : y = 0
 ·rw [if_pos hx, if_pos hy]; subst hx; subst hy; decide
 ·rw [if_pos hx, if_neg hy]; subst hx; rw [if_pos (by omega)]; rfl
 ·rw [if_neg hx, if_pos hy]; subst hy; rw [if_neg (by omega), if_pos (by omega)]; rfl
 ·rw [if_neg hx, if_neg hy]; simp [cmpZ, cmpD]
theorem nlen_dgs (n : Nat) (h : n < 1000000000 ^ 3) : qB (dgs 3 n) (dgs 3 n).length = (dgs 3 n).length := nlen_last (dgs_last 3 n h)
theorem nlen_rep : ∀ n m, qB (List.replicate m 0) n = 0
 | 0, _ => rfl
 | n + 1, m => by
  rw [qB, if_pos, nlen_rep n m]
  rw [List.getD_eq_getElem?_getD, List.getElem?_replicate]
  split <;> rfl
theorem nlen_one {x : Int} (h0 : 0 ≤ x) (h1 : x < 1000000000) : [x].take (qB [x] [x].length) = dgs 3 x.natAbs := by
 rw [dgs_int h0 h1]
 by_cases h : x = 0
 ·subst h; rfl
 ·rw [if_neg h]; simp [qB, h]
set_option maxHeartbeats 4000000 in
set_option maxRecDepth 10000 in
theorem times1_ok {I : zJ} (hI : Plain I) {s : St} (hf : Fine s) {va : Value} (ha : SlD s va [1]) {k : Int} (hk0 : 0 ≤ k) (hk1 : k < 1000000000) (hroom : s.next + 40 ≤ zh) :
  ∃ v' s', yE Tryz.prog I 306 #[va, .int .i64 k] s v' s' ∧ (∃ D, HL [] s s' D 40 ∧ SlIn D v' (dgs 3 k.natAbs)) := by
 have H := hf.hl
 obtain ⟨a, len, cap, rfl, hn⟩ := ha.isSlice
 simp only [List.length_map, List.length_cons, List.length_nil, Nat.zero_add] at hn
 subst hn
 refine zY 2 (hI 306 (by decide) (by decide) (by decide) (by decide)) Tryz.func306 rfl fb306 rfl ?_
 refine zc (za rfl (zk (zb (zc (za rfl (zp rfl (za rfl (zo rfl fc167 rfl ?_))))))))
 obtain ⟨_, s9, hr, rfl, Hc⟩ := xE (l := [1]) (a := a) (cap := cap) (neg := false) hI H.fine (ha.kept H) (by decide) (by have := H.most; unfold zh at *; omega)
 refine ⟨_, _, hr, ?_⟩
 clear hr
 have H := H.call0 Hc
 clear Hc
 refine za rfl (zd rfl (za rfl (zo rfl fc113 rfl ?_)))
 obtain ⟨_, s9, hr, D1, ra, rfl, Hc, hra⟩ := of03_ok (n := k) hI H.fine ⟨by omega, by omega⟩ (by have := H.most; unfold zh at *; omega)
 refine ⟨_, _, hr, ?_⟩
 clear hr
 have H := H.callE Hc
 clear Hc
 try simp only [List.cons_append, List.nil_append, List.append_assoc] at H
 obtain ⟨ara, nra, cra, rfl, hnra⟩ := hra.isSlice
 refine za rfl (zo rfl fc116 rfl ?_)
 obtain ⟨_, s9, hr, D2, nb, rb, rfl, Hc, hrb⟩ := mul1_ok (n1 := false) (n2 := decide (k < 0)) (s1 := .slice a 1 cap) (s2 := .slice ara nra cra) (lb := dgs 3 k.natAbs) hI H.fine (ha.kept H) (hra.sl H (by intro p hp; (try simp only [List.mem_cons, List.mem_append, List.not_mem_nil, or_false] at hp ⊢); first | exact hp | simp only [hp, true_or, or_true])) (dgs_dig _ _) (nlen_dgs _ (by omega)) (by have := qG 3 k.natAbs; omega) (by have := H.most; unfold zh at *; omega)
 refine ⟨_, _, hr, ?_⟩
 clear hr
 have H := H.callE Hc
 clear Hc
 try simp only [List.cons_append, List.nil_append, List.append_assoc] at H
 obtain ⟨arb, nrb, crb, rfl, hnrb⟩ := hrb.isSlice
 refine za rfl (zC H zf56 (by unfold zh at *; omega) (fun b5 s1 H => ?_))
 refine za rfl (zD (vs := [.bool _, .slice _ _ _]) H qy rfl rfl rfl rfl rfl (by unfold zh at *; omega) (fun s2 H => ?_))
 refine zb (zc (za rfl (zf yK rfl (za rfl (zj qp rfl H.own0 rfl (za rfl (yb rfl (zb (zF (zt (z6 ?_)))))))))))
 exact ⟨_, H.up (by omega), hrb.mono (by intro p hp; (try simp only [List.mem_cons, List.mem_append, List.not_mem_nil, or_false] at hp ⊢); first | exact hp | simp only [hp, true_or, or_true])⟩
end Go.Proofs.YtdejleegamcioaaGreat
namespace Go.Proofs.YtdejleegamcioaaGreat
open Go Go.M
theorem fb210 : yw Tryz.f210 (Tryz.f210.body.getD .skip) 2 = true := by kernel_rfl
theorem fc169 : yk Tryz.prog 169 = true := by kernel_rfl
theorem fc170 : yk Tryz.prog 170 = true := by kernel_rfl
theorem fc209 : yk Tryz.prog 209 = true := by kernel_rfl
theorem fc306 : yk Tryz.prog 306 = true := by kernel_rfl
set_option maxHeartbeats 4000000 in
set_option maxRecDepth 10000 in
theorem divided1_ok {I : zJ} (hI : Plain I) {s : St} (hf : Fine s) {va vb : Value} {la : List Int} (ha : SlD s va la) (hb : SlD s vb [1]) (hd : Dig la) (hlen : la.length ≤ 3) (hroom : s.next + 200000000000 ≤ zh) :
  ∃ v' s', yE Tryz.prog I 210 #[va, vb] s v' s' ∧ (∃ D q r lq, v' = .tuple ⟨[q, r]⟩ ∧ HL [] s s' D 200000000000 ∧ SlIn D q lq ∧ Dig lq ∧ lq.length ≤ 3 ∧ SlIn D r []) := by
 have H := hf.hl
 have hd0 := hd.at 0
 have hd1 := hd.at 1
 obtain ⟨a, len, cap, rfl, hn⟩ := ha.isSlice
 rw [List.length_map] at hn
 subst hn
 obtain ⟨a2, len, cap2, rfl, hn⟩ := hb.isSlice
 simp only [List.length_map, List.length_cons, List.length_nil, Nat.zero_add] at hn
 subst hn
 refine zY 2 (hI 210 (by decide) (by decide) (by decide) (by decide)) Tryz.func210 rfl fb210 rfl ?_
 refine zc (za rfl (zk (za rfl (zk (zb (zq (zc (za rfl (zp rfl (za rfl (yf xO rfl rfl rfl (za rfl (op_leq rfl rfl (fun h => ?_) (fun h => ?_))))))))))))))
 ·refine za rfl (zl rfl (za rfl (zp rfl (za rfl (yf xO rfl rfl rfl (za rfl (op_leq rfl rfl (fun h => ?_) (fun h => False.elim (by omega)))))))))
  refine za rfl (zK rfl rfl (zb (zE rfl (zc (za rfl (zp rfl (za rfl (zo rfl fc209 rfl ?_))))))))
  obtain ⟨_, _, hr, rfl, rfl⟩ := tiny_ok (l := la) hI (ha.kept H) hd
  refine ⟨_, _, hr, ?_⟩
  clear hr
  refine za rfl (zp rfl (za rfl (zo rfl fc209 rfl ?_)))
  obtain ⟨_, _, hr, rfl, rfl⟩ := tiny_ok (l := [1]) hI (hb.kept H) (by intro x hx; simp at hx; omega)
  refine ⟨_, _, hr, ?_⟩
  clear hr
  refine za rfl (op_quo rfl rfl (by decide) (by show zQ ((la.getD 1 0 * 1000000000 + la.getD 0 0).tdiv 1); rw [Int.tdiv_one]; unfold zQ; omega) (za rfl (zo rfl fc113 rfl ?_)))
  obtain ⟨_, s9, hr, D1, ra, rfl, Hc, hra⟩ := of03_ok (n := (la.getD 1 0 * 1000000000 + la.getD 0 0).tdiv 1) hI H.fine (by rw [Int.tdiv_one]; exact ⟨by omega, by omega⟩) (by have := H.most; unfold zh at *; omega)
  refine ⟨_, _, hr, ?_⟩
  clear hr
  have H := H.callE Hc
  clear Hc
  try simp only [List.cons_append, List.nil_append, List.append_assoc] at H
  obtain ⟨ara, nra, cra, rfl, hnra⟩ := hra.isSlice
  refine za rfl (zC H zf56 (by unfold zh at *; omega) (fun b6 s1 H => ?_))
  refine za rfl (zD (vs := [.bool _, .slice _ _ _]) H qy rfl rfl rfl rfl rfl (by unfold zh at *; omega) (fun s2 H => ?_))
  refine zb (zc (za rfl (zp rfl (za rfl (zo rfl fc209 rfl ?_)))))
  obtain ⟨_, _, hr, rfl, rfl⟩ := tiny_ok (l := la) hI (ha.kept H) hd
  refine ⟨_, _, hr, ?_⟩
  clear hr
  refine za rfl (zp rfl (za rfl (zo rfl fc209 rfl ?_)))
  obtain ⟨_, _, hr, rfl, rfl⟩ := tiny_ok (l := [1]) hI (hb.kept H) (by intro x hx; simp at hx; omega)
  refine ⟨_, _, hr, ?_⟩
  clear hr
  refine za rfl (op_rem rfl rfl (by decide) (za rfl (zo rfl fc113 rfl ?_)))
  obtain ⟨_, s9, hr, D2, rb, rfl, Hc, hrb⟩ := of03_ok (n := (la.getD 1 0 * 1000000000 + la.getD 0 0).tmod 1) hI H.fine (by rw [Int.tmod_one]; exact ⟨by omega, by omega⟩) (by have := H.most; unfold zh at *; omega)
  refine ⟨_, _, hr, ?_⟩
  clear hr
  have H := H.callE Hc
  clear Hc
  try simp only [List.cons_append, List.nil_append, List.append_assoc] at H
  obtain ⟨arb, nrb, crb, rfl, hnrb⟩ := hrb.isSlice
  refine za rfl (zC H zf56 (by unfold zh at *; omega) (fun b7 s3 H => ?_))
  refine za rfl (zD (vs := [.bool _, .slice _ _ _]) H qy rfl rfl rfl rfl rfl (by unfold zh at *; omega) (fun s4 H => ?_))
  refine zb (yC [⟨0, 0, .light, [3]⟩, ⟨1, 1, .light, [3]⟩, ⟨2, 0, .light, [1]⟩, ⟨3, 4, .light, [1]⟩, ⟨4, 3, .light, [3]⟩, ⟨5, 31, .light, []⟩] (by kernel_rfl) (by kernel_rfl) (ze rfl rfl (zf yK rfl ⟨rfl, (zy rfl rfl qp rfl H.own1 (by exact H.lim1 (by unfold zh at *; omega)) rfl (ze rfl rfl (zf yK rfl ⟨rfl, (zy rfl rfl qp rfl H.own0 (by exact H.lim0 (by unfold zh at *; omega)) rfl (ze rfl rfl (yb rfl ⟨rfl, (ze rfl rfl (yb rfl ⟨rfl, (z2 (zF (zV (zt ?_))))⟩))⟩)))⟩)))⟩)))
  refine end_tt rfl rfl (⟨_, _, _, _, rfl, H.up (by omega), hra.mono (by intro p hp; (try simp only [List.mem_cons, List.mem_append, List.not_mem_nil, or_false] at hp ⊢); first | exact hp | simp only [hp, true_or, or_true]), dgs_dig _ _, qG _ _, ?_⟩)
  have h0 : (la.getD 1 0 * 1000000000 + la.getD 0 0).tmod 1 = 0 := Int.tmod_one _
  rw [h0] at hrb
  exact hrb.mono (by intro p hp; (try simp only [List.mem_cons, List.mem_append, List.not_mem_nil, or_false] at hp ⊢); first | exact hp | simp only [hp, true_or, or_true])
 refine za rfl (zl rfl (zg rfl (zg rfl (zg rfl (za rfl (zZ rfl (zb (zx rfl (zA (zi (zc (za rfl (zp rfl (za rfl (yf xO rfl rfl rfl ?_)))))))))))))))
 refine za rfl (op_makeSlice (a := la.length) (b := la.length) H sl22 rfl rfl (Nat.le_refl _) (by omega) (by unfold zh at *; omega) (fun b42 s42 H => ?_))
 refine za rfl (yb rfl (zb ?_))
 rw [repL_ints] at H
 refine zc (za rfl (zk (zb (zq (zc (za rfl (zp rfl (za rfl (yf xO rfl rfl rfl (za rfl (op_sub rfl rfl (by unfold zQ; (unfold zh at *; omega)) (za rfl (zm rfl (zb (zI (yP (fun k F s1 => ∃ (G : FF) (m : Nat) (o : List Int), F = lay G [(0, .slice a la.length cap), (1, .slice a2 1 cap2), (8, .slice (some ⟨b42, 0, none⟩) la.length (2 * la.length)), (9, .slice none 0 0), (10, .int .i64 ((m : Int) - 1))] ∧ HL [] s s1 [(b42, .cells (z7 o) 3)] (1 + (la.length - m) * 50000000000) ∧ o.length = la.length ∧ Dig o ∧ m ≤ la.length ∧ k = m) ?_ la.length _ _ ?_))))))))))))))))
 rotate_left
 ·exact ⟨_, la.length, List.replicate la.length 0, yd ⟨rfl, rfl, rfl, rfl, rfl, trivial⟩, H.up (by omega), by simp, by intro x hx; rw [List.mem_replicate] at hx; omega, by omega, rfl⟩
 rintro k F s1 ⟨G, m, o, rfl, H, hol, hod, hm, rfl⟩
 refine zq (zc (za rfl (zd rfl (za rfl (qd rfl rfl (fun h => ?_) (fun h => ?_))))))
 ·refine zb (zE rfl (zA (zi (zq (zI ?_)))))
  obtain ⟨m, rfl⟩ : ∃ j, k = j + 1 := ⟨k - 1, by omega⟩
  have hxd := hd.at m
  obtain ⟨b1, off1, c1, rfl, hg1, hb1, hc1⟩ := (ha.kept H).atD (i := ((m + 1 : Nat) : Int) - 1) (k := m) (by omega) (by omega)
  refine zc (za rfl (zp rfl (za rfl (zd rfl (za rfl (zM el22 rfl rfl (by unfold zh at *; omega) (by unfold zh at *; omega) (za rfl (zj sh3 rfl hg1 hc1 (za rfl (ya (c := [.int _ _]) H sl22 rfl rfl (by unfold zh at *; omega) (fun b54 s5 H => ?_)))))))))))
  refine za rfl (zp rfl (za rfl (op_appendNone' H sl22 xO rfl rfl rfl elems_nil (by decide) (Nat.le_refl _) (by unfold zh at *; omega) (fun s56 H => ?_))))
  have hsx : SlIn [(b54, .cells [.int .i64 (la.getD m 0)] 3)] (.slice (some ⟨b54, 0, none⟩) 1 (2 * 1)) [(la.getD m 0)] := (Own.slIn (l := [(la.getD m 0)]) (len := 1) (.block b54 (2 * 1) _ _ (by simp [z7]) (by decide))).2
  refine za rfl (zo rfl fc167 rfl ?_)
  obtain ⟨_, s9, hr, rfl, Hc⟩ := xE (l := [(la.getD m 0)]) (a := some ⟨b54, 0, none⟩) (cap := 2 * 1) (neg := false) hI H.fine (hsx.sl H (by intro p hp; (try simp only [List.mem_cons, List.mem_append, List.not_mem_nil, or_false] at hp ⊢); first | exact hp | simp only [hp, true_or, or_true])) (by simp) (by have := H.most; unfold zh at *; omega)
  refine ⟨_, _, hr, ?_⟩
  clear hr
  have H := H.call0 Hc
  clear Hc
  have hrest := hsx.take (m := qB [(la.getD m 0)] [(la.getD m 0)].length) (nlen_le _ _)
  rw [nlen_one hxd.1 hxd.2] at hrest
  obtain ⟨ar, nr, cr, hreq, hnr⟩ := hrest.isSlice
  rw [hreq] at hrest
  rw [hreq]
  have hneg0 : (if qB [(la.getD m 0)] [(la.getD m 0)].length = 0 then false else false) = false := by split <;> rfl
  rw [hneg0]
  refine za rfl (zC H zf56 (by unfold zh at *; omega) (fun b11 s6 H => ?_))
  refine za rfl (zD (vs := [.bool _, .slice _ _ _]) H qy rfl rfl rfl rfl rfl (by unfold zh at *; omega) (fun s57 H => ?_))
  refine zb (zc (za rfl (zf yK rfl (za rfl (zj qp rfl H.own0 rfl (za rfl (yb rfl (zb (zc (za rfl (zk (zb (zc (za rfl (zk (zb ?_))))))))))))))))
  refine zq (zc (za rfl (zp rfl (za rfl (zp rfl (za rfl (zo rfl fc169 rfl ?_)))))))
  obtain ⟨_, _, hr, rfl, rfl⟩ := compared_ok hI (hrest.sl H (by intro p hp; (try simp only [List.mem_cons, List.mem_append, List.not_mem_nil, or_false] at hp ⊢); first | exact hp | simp only [hp, true_or, or_true])) (hb.kept H) (by have := qG 3 (la.getD m 0).natAbs; omega) (by have := H.most; unfold zh at *; omega)
  refine ⟨_, _, hr, ?_⟩
  clear hr
  have hc1 : cmpZ (dgs 3 (la.getD m 0).natAbs) [1] = if (la.getD m 0) < 1 then -1 else if 1 < (la.getD m 0) then 1 else 0 := cmp_small hxd.1 hxd.2 (y := 1) (by decide) (by decide)
  rw [hc1]
  refine za rfl (yq rfl rfl (fun h => ?_) (fun h => ?_))
  ·refine zb (zE rfl (zv (za rfl (zk (zb (zi (zq (zI (yP (fun k F s1 => ∃ (G : FF) (lo hi : Int) (n : Nat), F = lay G [(0, .slice (some ⟨b1, off1, none⟩) la.length cap), (1, .slice a2 1 cap2), (8, .slice (some ⟨b42, 0, none⟩) la.length (2 * la.length)), (9, .slice ar nr cr), (10, .int .i64 (((m + 1 : Nat) : Int) - 1)), (12, .int .i64 lo), (13, .int .i64 hi)] ∧ HL [] s s1 [(b54, .cells [.int .i64 (la.getD m 0)] 3), (b42, .cells (z7 o) 3)] n ∧ n + 40 * (hi - lo).toNat ≤ (1 + (la.length - (m + 1)) * 50000000000) + 40000000100 ∧ 0 ≤ lo ∧ lo ≤ (la.getD m 0) ∧ (la.getD m 0) ≤ hi ∧ hi ≤ 999999999 ∧ k = (hi - lo).toNat) ?_ ((0 : Int) - 0).toNat _ _ ?_)))))))))
   rotate_left
   ·refine ⟨_, 0, _, _, yd ⟨rfl, rfl, rfl, rfl, rfl, rfl, rfl, trivial⟩, H.drop0, ?_, by omega, by omega, ?_, by omega, rfl⟩
    ·omega
    ·omega
   rintro k F s1 ⟨G, lo, hi, n, rfl, H, hcnt, hlo0, hlo, hhi, hhi9, rfl⟩
   refine zq (zc (za rfl (zd rfl (za rfl (zd rfl (za rfl (yq rfl rfl (fun h => ?_) (fun h => ?_))))))))
   ·refine zb (zE rfl (zA (zi (zI ?_))))
    have hmid : (lo + hi + 1).tdiv 2 = (lo + hi + 1) / 2 := Int.tdiv_eq_ediv_of_nonneg (by omega)
    refine zc (za rfl (zd rfl (za rfl (zd rfl (za rfl (zT rfl rfl (by unfold zQ; (unfold zh at *; omega)) (za rfl (zT rfl rfl (by unfold zQ; (unfold zh at *; omega)) (za rfl (op_quo rfl rfl (by decide) (by show zQ ((lo + hi + 1).tdiv 2); rw [Int.tdiv_eq_ediv_of_nonneg (by omega)]; unfold zQ; omega) (za rfl (zm rfl (zb (zc (za rfl (zp rfl (za rfl (zd rfl (za rfl (zo rfl fc306 rfl ?_))))))))))))))))))))
    obtain ⟨vt, s9, hr, Dt, Hc, hvt⟩ := times1_ok (k := (lo + hi + 1).tdiv 2) hI H.fine (hb.kept H) (by omega) (by omega) (by have := H.most; unfold zh at *; omega)
    refine ⟨_, _, hr, ?_⟩
    clear hr
    have H := H.callE Hc
    clear Hc
    try simp only [List.cons_append, List.nil_append, List.append_assoc] at H
    obtain ⟨avt, nvt, cvt, rfl, hnvt⟩ := hvt.isSlice
    refine za rfl (zp rfl (za rfl (zo rfl fc169 rfl ?_)))
    obtain ⟨_, _, hr, rfl, rfl⟩ := compared_ok hI (hvt.sl H (by intro p hp; (try simp only [List.mem_cons, List.mem_append, List.not_mem_nil, or_false] at hp ⊢); first | exact hp | simp only [hp, true_or, or_true])) (hrest.sl H (by intro p hp; (try simp only [List.mem_cons, List.mem_append, List.not_mem_nil, or_false] at hp ⊢); first | exact hp | simp only [hp, true_or, or_true])) (by have := qG 3 ((lo + hi + 1).tdiv 2).natAbs; omega) (by have := H.most; unfold zh at *; omega)
    refine ⟨_, _, hr, ?_⟩
    clear hr
    have hc2 : cmpZ (dgs 3 ((lo + hi + 1).tdiv 2).natAbs) (dgs 3 (la.getD m 0).natAbs) = if (lo + hi + 1).tdiv 2 < (la.getD m 0) then -1 else if (la.getD m 0) < (lo + hi + 1).tdiv 2 then 1 else 0 := cmp_small (by omega) (by omega) hxd.1 hxd.2
    rw [hc2]
    refine za rfl (op_leq rfl rfl (fun h => ?_) (fun h => ?_))
    ·refine zb (zE rfl (zv (za rfl (zd rfl (za rfl (zm rfl (zb (zP (zN (⟨_, ?_, _, _, _, _, yd ⟨rfl, rfl, rfl, rfl, rfl, rfl, rfl, trivial⟩, H.left2, ?_, ?_, ?_, ?_, ?_, rfl⟩))))))))))
     ·omega
     ·omega
     ·omega
     ·omega
     ·omega
     ·omega
    refine zb (zx rfl (zv (za rfl (zd rfl (za rfl (op_sub rfl rfl (by unfold zQ; (unfold zh at *; omega)) (za rfl (zm rfl (zb (zP (zN (⟨_, ?_, _, _, _, _, yd ⟨rfl, rfl, rfl, rfl, rfl, rfl, rfl, trivial⟩, H.left2, ?_, ?_, ?_, ?_, ?_, rfl⟩))))))))))))
    ·omega
    ·omega
    ·omega
    ·omega
    ·omega
    ·omega
   refine zb (zx rfl (yn (zX (yh (ye (zi (zc (za rfl (zp rfl (za rfl (zp rfl (za rfl (zd rfl (za rfl (zo rfl fc306 rfl ?_)))))))))))))))
   obtain ⟨vu, s9, hr, Du, Hc, hvu⟩ := times1_ok (k := lo) hI H.fine (hb.kept H) (by omega) (by omega) (by have := H.most; unfold zh at *; omega)
   refine ⟨_, _, hr, ?_⟩
   clear hr
   have H := H.callE Hc
   clear Hc
   try simp only [List.cons_append, List.nil_append, List.append_assoc] at H
   obtain ⟨avu, nvu, cvu, rfl, hnvu⟩ := hvu.isSlice
   refine za rfl (zo rfl fc170 rfl ?_)
   have hlx : lo = la.getD m 0 := by omega
   have hvu2 := hvu
   rw [hlx] at hvu2
   obtain ⟨vm, s9, hr, Dm, Hc, hvm⟩ := minus_ok hI H.fine (hrest.sl H (by intro p hp; (try simp only [List.mem_cons, List.mem_append, List.not_mem_nil, or_false] at hp ⊢); first | exact hp | simp only [hp, true_or, or_true])) (hvu2.sl H (by intro p hp; (try simp only [List.mem_cons, List.mem_append, List.not_mem_nil, or_false] at hp ⊢); first | exact hp | simp only [hp, true_or, or_true])) (dgs_dig _ _) (by have := qG 3 (la.getD m 0).natAbs; omega) (by have := H.most; unfold zh at *; omega)
   refine ⟨_, _, hr, ?_⟩
   clear hr
   have H := H.callE Hc
   clear Hc
   try simp only [List.cons_append, List.nil_append, List.append_assoc] at H
   obtain ⟨avm, nvm, cvm, rfl, hnvm⟩ := hvm.isSlice
   refine za rfl (zo rfl fc167 rfl ?_)
   subst hnvm
   have hlm := qG 3 (la.getD m 0).natAbs
   obtain ⟨_, s9, hr, rfl, Hc⟩ := xE (l := List.replicate (dgs 3 (la.getD m 0).natAbs).length 0) (a := avm) (cap := cvm) (neg := false) hI H.fine (hvm.sl H (by intro p hp; (try simp only [List.mem_cons, List.mem_append, List.not_mem_nil, or_false] at hp ⊢); first | exact hp | simp only [hp, true_or, or_true])) (by rw [List.length_replicate]; omega) (by have := H.most; unfold zh at *; omega)
   refine ⟨_, _, hr, ?_⟩
   clear hr
   have H := H.call0 Hc
   clear Hc
   rw [nlen_rep]
   refine za rfl (zC H zf56 (by unfold zh at *; omega) (fun b15 s7 H => ?_))
   refine za rfl (zD (vs := [.bool _, .slice _ _ _]) H qy rfl rfl rfl rfl rfl (by unfold zh at *; omega) (fun s86 H => ?_))
   refine zb (zc (za rfl (zp rfl (za rfl (zd rfl (za rfl (zd rfl (za rfl (zM el22 rfl rfl (by unfold zh at *; omega) (by unfold zh at *; omega) (za rfl (op_store2 H sz3 rfl rfl rfl rfl (lput_ints' (o := o) (k := m) (by omega) (by omega)) (by unfold zh at *; omega) (fun s90 H => ?_))))))))))))
   refine zb (zv (za rfl (zf yK rfl (za rfl (zj qp rfl H.own0 rfl (za rfl (yb rfl (zb (zP (zi (zv (za rfl (zd rfl (za rfl (op_sub rfl rfl (by unfold zQ; (unfold zh at *; omega)) (za rfl (zm rfl ?_)))))))))))))))))
   refine zb (zN (⟨m, by omega, _, m, o.set m lo, yd ⟨rfl, rfl, rfl, rfl, by show Value.int .i64 (((m + 1 : Nat) : Int) - 1 - 1) = _; congr 1; omega, trivial⟩, ?_, by simp; omega, ?_, by omega, rfl⟩))
   ·refine (H.sub (L' := [(b42, .cells (z7 (o.set m lo)) 3)]) ?_).up (by omega)
    exact .cons _ (.cons _ (.cons_cons _ (List.nil_sublist _)))
   ·intro y hy
    rcases List.mem_or_eq_of_mem_set hy with h | h
    ·exact hod y h
    ·omega
  refine zb (zx rfl (zA (zi (zq (zI (yP (fun k F s1 => ∃ (G : FF) (lo hi : Int) (n : Nat), F = lay G [(0, .slice (some ⟨b1, off1, none⟩) la.length cap), (1, .slice a2 1 cap2), (8, .slice (some ⟨b42, 0, none⟩) la.length (2 * la.length)), (9, .slice ar nr cr), (10, .int .i64 (((m + 1 : Nat) : Int) - 1)), (12, .int .i64 lo), (13, .int .i64 hi)] ∧ HL [] s s1 [(b54, .cells [.int .i64 (la.getD m 0)] 3), (b42, .cells (z7 o) 3)] n ∧ n + 40 * (hi - lo).toNat ≤ (1 + (la.length - (m + 1)) * 50000000000) + 40000000100 ∧ 0 ≤ lo ∧ lo ≤ (la.getD m 0) ∧ (la.getD m 0) ≤ hi ∧ hi ≤ 999999999 ∧ k = (hi - lo).toNat) ?_ ((999999999 : Int) - 0).toNat _ _ ?_))))))
  rotate_left
  ·refine ⟨_, 0, _, _, yd ⟨rfl, rfl, rfl, rfl, rfl, rfl, rfl, trivial⟩, H.drop0, ?_, by omega, by omega, ?_, by omega, rfl⟩
   ·omega
   ·omega
  rintro k F s1 ⟨G, lo, hi, n, rfl, H, hcnt, hlo0, hlo, hhi, hhi9, rfl⟩
  refine zq (zc (za rfl (zd rfl (za rfl (zd rfl (za rfl (yq rfl rfl (fun h => ?_) (fun h => ?_))))))))
  ·refine zb (zE rfl (zA (zi (zI ?_))))
   have hmid : (lo + hi + 1).tdiv 2 = (lo + hi + 1) / 2 := Int.tdiv_eq_ediv_of_nonneg (by omega)
   refine zc (za rfl (zd rfl (za rfl (zd rfl (za rfl (zT rfl rfl (by unfold zQ; (unfold zh at *; omega)) (za rfl (zT rfl rfl (by unfold zQ; (unfold zh at *; omega)) (za rfl (op_quo rfl rfl (by decide) (by show zQ ((lo + hi + 1).tdiv 2); rw [Int.tdiv_eq_ediv_of_nonneg (by omega)]; unfold zQ; omega) (za rfl (zm rfl (zb (zc (za rfl (zp rfl (za rfl (zd rfl (za rfl (zo rfl fc306 rfl ?_))))))))))))))))))))
   obtain ⟨vt, s9, hr, Dt, Hc, hvt⟩ := times1_ok (k := (lo + hi + 1).tdiv 2) hI H.fine (hb.kept H) (by omega) (by omega) (by have := H.most; unfold zh at *; omega)
   refine ⟨_, _, hr, ?_⟩
   clear hr
   have H := H.callE Hc
   clear Hc
   try simp only [List.cons_append, List.nil_append, List.append_assoc] at H
   obtain ⟨avt, nvt, cvt, rfl, hnvt⟩ := hvt.isSlice
   refine za rfl (zp rfl (za rfl (zo rfl fc169 rfl ?_)))
   obtain ⟨_, _, hr, rfl, rfl⟩ := compared_ok hI (hvt.sl H (by intro p hp; (try simp only [List.mem_cons, List.mem_append, List.not_mem_nil, or_false] at hp ⊢); first | exact hp | simp only [hp, true_or, or_true])) (hrest.sl H (by intro p hp; (try simp only [List.mem_cons, List.mem_append, List.not_mem_nil, or_false] at hp ⊢); first | exact hp | simp only [hp, true_or, or_true])) (by have := qG 3 ((lo + hi + 1).tdiv 2).natAbs; omega) (by have := H.most; unfold zh at *; omega)
   refine ⟨_, _, hr, ?_⟩
   clear hr
   have hc2 : cmpZ (dgs 3 ((lo + hi + 1).tdiv 2).natAbs) (dgs 3 (la.getD m 0).natAbs) = if (lo + hi + 1).tdiv 2 < (la.getD m 0) then -1 else if (la.getD m 0) < (lo + hi + 1).tdiv 2 then 1 else 0 := cmp_small (by omega) (by omega) hxd.1 hxd.2
   rw [hc2]
   refine za rfl (op_leq rfl rfl (fun h => ?_) (fun h => ?_))
   ·refine zb (zE rfl (zv (za rfl (zd rfl (za rfl (zm rfl (zb (zP (zN (⟨_, ?_, _, _, _, _, yd ⟨rfl, rfl, rfl, rfl, rfl, rfl, rfl, trivial⟩, H.left2, ?_, ?_, ?_, ?_, ?_, rfl⟩))))))))))
    ·omega
    ·omega
    ·omega
    ·omega
    ·omega
    ·omega
   refine zb (zx rfl (zv (za rfl (zd rfl (za rfl (op_sub rfl rfl (by unfold zQ; (unfold zh at *; omega)) (za rfl (zm rfl (zb (zP (zN (⟨_, ?_, _, _, _, _, yd ⟨rfl, rfl, rfl, rfl, rfl, rfl, rfl, trivial⟩, H.left2, ?_, ?_, ?_, ?_, ?_, rfl⟩))))))))))))
   ·omega
   ·omega
   ·omega
   ·omega
   ·omega
   ·omega
  refine zb (zx rfl (yn (zX (yh (ye (zi (zc (za rfl (zp rfl (za rfl (zp rfl (za rfl (zd rfl (za rfl (zo rfl fc306 rfl ?_)))))))))))))))
  obtain ⟨vu, s9, hr, Du, Hc, hvu⟩ := times1_ok (k := lo) hI H.fine (hb.kept H) (by omega) (by omega) (by have := H.most; unfold zh at *; omega)
  refine ⟨_, _, hr, ?_⟩
  clear hr
  have H := H.callE Hc
  clear Hc
  try simp only [List.cons_append, List.nil_append, List.append_assoc] at H
  obtain ⟨avu, nvu, cvu, rfl, hnvu⟩ := hvu.isSlice
  refine za rfl (zo rfl fc170 rfl ?_)
  have hlx : lo = la.getD m 0 := by omega
  have hvu2 := hvu
  rw [hlx] at hvu2
  obtain ⟨vm, s9, hr, Dm, Hc, hvm⟩ := minus_ok hI H.fine (hrest.sl H (by intro p hp; (try simp only [List.mem_cons, List.mem_append, List.not_mem_nil, or_false] at hp ⊢); first | exact hp | simp only [hp, true_or, or_true])) (hvu2.sl H (by intro p hp; (try simp only [List.mem_cons, List.mem_append, List.not_mem_nil, or_false] at hp ⊢); first | exact hp | simp only [hp, true_or, or_true])) (dgs_dig _ _) (by have := qG 3 (la.getD m 0).natAbs; omega) (by have := H.most; unfold zh at *; omega)
  refine ⟨_, _, hr, ?_⟩
  clear hr
  have H := H.callE Hc
  clear Hc
  try simp only [List.cons_append, List.nil_append, List.append_assoc] at H
  obtain ⟨avm, nvm, cvm, rfl, hnvm⟩ := hvm.isSlice
  refine za rfl (zo rfl fc167 rfl ?_)
  subst hnvm
  have hlm := qG 3 (la.getD m 0).natAbs
  obtain ⟨_, s9, hr, rfl, Hc⟩ := xE (l := List.replicate (dgs 3 (la.getD m 0).natAbs).length 0) (a := avm) (cap := cvm) (neg := false) hI H.fine (hvm.sl H (by intro p hp; (try simp only [List.mem_cons, List.mem_append, List.not_mem_nil, or_false] at hp ⊢); first | exact hp | simp only [hp, true_or, or_true])) (by rw [List.length_replicate]; omega) (by have := H.most; unfold zh at *; omega)
  refine ⟨_, _, hr, ?_⟩
  clear hr
  have H := H.call0 Hc
  clear Hc
  rw [nlen_rep]
  refine za rfl (zC H zf56 (by unfold zh at *; omega) (fun b15 s8 H => ?_))
  refine za rfl (zD (vs := [.bool _, .slice _ _ _]) H qy rfl rfl rfl rfl rfl (by unfold zh at *; omega) (fun s86 H => ?_))
  refine zb (zc (za rfl (zp rfl (za rfl (zd rfl (za rfl (zd rfl (za rfl (zM el22 rfl rfl (by unfold zh at *; omega) (by unfold zh at *; omega) (za rfl (op_store2 H sz3 rfl rfl rfl rfl (lput_ints' (o := o) (k := m) (by omega) (by omega)) (by unfold zh at *; omega) (fun s90 H => ?_))))))))))))
  refine zb (zv (za rfl (zf yK rfl (za rfl (zj qp rfl H.own0 rfl (za rfl (yb rfl (zb (zP (zi (zv (za rfl (zd rfl (za rfl (op_sub rfl rfl (by unfold zQ; (unfold zh at *; omega)) (za rfl (zm rfl ?_)))))))))))))))))
  refine zb (zN (⟨m, by omega, _, m, o.set m lo, yd ⟨rfl, rfl, rfl, rfl, by show Value.int .i64 (((m + 1 : Nat) : Int) - 1 - 1) = _; congr 1; omega, trivial⟩, ?_, by simp; omega, ?_, by omega, rfl⟩))
  ·refine (H.sub (L' := [(b42, .cells (z7 (o.set m lo)) 3)]) ?_).up (by omega)
   exact .cons _ (.cons _ (.cons_cons _ (List.nil_sublist _)))
  ·intro y hy
   rcases List.mem_or_eq_of_mem_set hy with h | h
   ·exact hod y h
   ·omega
 refine zb (zx rfl (yn (zX (yh (ye (zi (zc (za rfl (zp rfl (za rfl (zp rfl (za rfl (yb rfl (za rfl (yb rfl ?_)))))))))))))))
 refine zb (zF (zt (end_tt rfl rfl (⟨_, _, _, o, rfl, H.up (by omega), ?_, hod, by omega, .nil 0 rfl rfl⟩))))
 rw [← hol]
 exact (Own.slIn (l := o) (len := o.length) (.block b42 (2 * o.length) _ _ (by simp [z7]) (by omega))).2
end Go.Proofs.YtdejleegamcioaaGreat
namespace Go.Proofs.YtdejleegamcioaaGreat
open Go Go.M
theorem fb165 : yw Tryz.f165 (Tryz.f165.body.getD .skip) 2 = true := by kernel_rfl
theorem fc210 : yk Tryz.prog 210 = true := by kernel_rfl
theorem fb166 : yw Tryz.f166 (Tryz.f166.body.getD .skip) 1 = true := by kernel_rfl
theorem Dig.take {l : List Int} (h : Dig l) (m : Nat) : Dig (l.take m) := fun x hx => h x (List.mem_of_mem_take hx)
def SlX (s0 : St) (D : Hp') (v : Value) (l : List Int) : Prop := SlIn D v l ∨ SlD s0 v l
theorem SlX.sl {s0 s : St} {D L : Hp'} {v : Value} {l : List Int} {n : Nat} (h : SlX s0 D v l) (H : HL [] s0 s L n) (hs : D ⊆ L) : SlD s v l := by
 rcases h with h | h
 ·exact h.sl H hs
 ·exact h.kept H
theorem SlX.isSlice {s0 : St} {D : Hp'} {v : Value} {l : List Int} (h : SlX s0 D v l) : ∃ a n c, v = .slice a n c ∧ n = l.length := by
 rcases h with h | h
 ·exact h.isSlice
 ·obtain ⟨a, n, c, h1, h2⟩ := Sl.isSlice h
  exact ⟨a, n, c, h1, by rw [h2, List.length_map]⟩
theorem SlX.nv {s0 : St} {D : Hp'} {a : Option Addr} {len cap : Nat} {l : List Int} (h : SlX s0 D (.slice a len cap) l) {m : Nat} (hm : m ≤ l.length) : SlX s0 D (nv a m cap) (l.take m) := by
 rcases h with h | h
 ·exact .inl (h.take hm)
 ·right
  unfold Go.Proofs.YtdejleegamcioaaGreat.nv
  by_cases hz : m = 0
  ·rw [if_pos hz]; subst hz; exact .nil 0 rfl (by simp)
  ·rw [if_neg hz]
   have := Sl.take h (m := m) (by simpa using hm)
   rwa [← List.map_take] at this
set_option maxHeartbeats 4000000 in
set_option maxRecDepth 10000 in
theorem div1_ok {I : zJ} (hI : Plain I) {s : St} (hf : Fine s) {n1 : Bool} {s1 s2 : Value} {la : List Int} (ha : SlD s s1 la) (hb : SlD s s2 [1]) (hd : Dig la) (hlen : la.length ≤ 3) (hroom : s.next + 200000000100 ≤ zh) :
  ∃ v' s', yE Tryz.prog I 165 #[.agg ⟨[.bool n1, s1]⟩, .agg ⟨[.bool false, s2]⟩] s v' s' ∧ (∃ D nb q lq, v' = .tuple ⟨[.agg ⟨[.bool nb, q]⟩, .agg ⟨[.bool false, .slice none 0 0]⟩]⟩ ∧ HL [] s s' D 200000000100 ∧ SlIn D q lq ∧ Dig lq ∧ lq.length ≤ 3 ∧ (n1 = false → nb = false)) := by
 have H := hf.hl
 obtain ⟨a, len, cap, rfl, hn⟩ := ha.isSlice
 rw [List.length_map] at hn
 subst hn
 obtain ⟨a2, len, cap2, rfl, hn⟩ := hb.isSlice
 simp only [List.length_map, List.length_cons, List.length_nil, Nat.zero_add] at hn
 subst hn
 refine zY 2 (hI 165 (by decide) (by decide) (by decide) (by decide)) Tryz.func165 rfl fb165 rfl ?_
 refine zc (za rfl (xc H rfl (by unfold zh at *; omega) (fun b2 s1 H => ?_)))
 refine za rfl (xc H rfl (by unfold zh at *; omega) (fun b3 s2 H => ?_))
 refine za rfl (zC H zf56 (by unfold zh at *; omega) (fun b4 s3 H => ?_))
 refine za rfl (zC H zf56 (by unfold zh at *; omega) (fun b5 s4 H => ?_))
 refine zb (zq (zc (za rfl (zf yK rfl (za rfl (zj qp rfl H.own2 rfl (za rfl (yf xO rfl rfl rfl (za rfl (xf rfl rfl (fun h => False.elim (by omega)) (fun h => ?_)))))))))))
 refine zb (zx rfl (zA (zi (zc (za rfl (zf yK rfl (za rfl (zj qp rfl H.own3 rfl (za rfl (zf yK rfl (za rfl (zj qp rfl H.own2 rfl (za rfl (zo rfl fc210 rfl ?_))))))))))))))
 obtain ⟨_, s9, hr, D1, q, r, lq, rfl, Hc, hq, hdq, hlq, hrr⟩ := divided1_ok hI H.fine (ha.kept H) (hb.kept H) hd hlen (by have := H.most; unfold zh at *; omega)
 refine ⟨_, _, hr, ?_⟩
 clear hr
 have H := H.callE Hc
 clear Hc
 try simp only [List.cons_append, List.nil_append, List.append_assoc] at H
 obtain ⟨aq, nq, cq, rfl, hnq⟩ := hq.isSlice
 subst hnq
 obtain ⟨ar, nr, cr, rfl, hnr⟩ := hrr.isSlice
 subst hnr
 refine za rfl (yA rfl (za rfl (zH rfl rfl (za rfl (zH rfl rfl (za rfl (yb rfl (za rfl (yb rfl (zb (zc (za rfl (zf of56_0 rfl (za rfl (zj sh4 rfl H.own3 rfl (za rfl (zf of56_0 rfl (za rfl (zj sh4 rfl H.own2 rfl (za rfl (op_neqb un4 rfl rfl ?_)))))))))))))))))))))
 refine za rfl (zp rfl (za rfl (zo rfl fc167 rfl ?_)))
 obtain ⟨_, s9, hr, rfl, Hc⟩ := xE (l := lq) (neg := !(n1 == false)) hI H.fine (hq.sl H (by intro p hp; (try simp only [List.mem_cons, List.mem_append, List.not_mem_nil, or_false] at hp ⊢); first | exact hp | simp only [hp, true_or, or_true])) (by omega) (by have := H.most; unfold zh at *; omega)
 refine ⟨_, _, hr, ?_⟩
 clear hr
 have H := H.call0 Hc
 clear Hc
 have hqt := hq.take (nlen_le lq lq.length)
 obtain ⟨ax, nx, cx, hxe, hnx⟩ := hqt.isSlice
 rw [hxe] at hqt
 rw [hxe]
 obtain ⟨nb, hnb⟩ : ∃ nb, nb = (if qB lq lq.length = 0 then false else !(n1 == false)) := ⟨_, rfl⟩
 rw [← hnb]
 have hnb2 : n1 = false → nb = false := by intro h; rw [hnb, h]; split <;> rfl
 clear hnb
 refine za rfl (zC H zf56 (by unfold zh at *; omega) (fun b8 s5 H => ?_))
 refine za rfl (zD (vs := [.bool _, .slice _ _ _]) H qy rfl rfl rfl rfl rfl (by unfold zh at *; omega) (fun s6 H => ?_))
 refine zb (zc (za rfl (zp rfl (za rfl (zo rfl fc167 rfl ?_)))))
 obtain ⟨_, s9, hr, rfl, Hc⟩ := xE (l := []) (neg := false) hI H.fine (hrr.sl H (by intro p hp; (try simp only [List.mem_cons, List.mem_append, List.not_mem_nil, or_false] at hp ⊢); first | exact hp | simp only [hp, true_or, or_true])) (by decide) (by have := H.most; unfold zh at *; omega)
 refine ⟨_, _, hr, ?_⟩
 clear hr
 have H := H.call0 Hc
 clear Hc
 refine za rfl (zC H zf56 (by unfold zh at *; omega) (fun b9 s7 H => ?_))
 refine za rfl (zD (vs := [.bool _, .slice _ _ _]) H qy rfl rfl rfl rfl rfl (by unfold zh at *; omega) (fun s8 H => ?_))
 refine zb (zq ?_)
 cases n1
 ·refine zc (za rfl (zf of56_0 rfl (za rfl (zj sh4 rfl H.own5 rfl (za rfl (zl rfl (zg rfl (zg rfl (zg rfl (zg rfl (za rfl (zZ rfl (zb (zx rfl (zA ?_)))))))))))))))
  refine zi (yC [⟨0, 0, .light, [1]⟩, ⟨1, 0, .light, [0]⟩, ⟨2, 1, .whole, [1]⟩, ⟨3, 7, .whole, []⟩] (by kernel_rfl) (by kernel_rfl) (yI rfl rfl qz rfl H.own1 (by exact H.lim1 (by unfold zh at *; omega)) rfl (yI rfl rfl qz rfl H.own0 (by exact H.lim0 (by unfold zh at *; omega)) rfl (dr_store3 (vs := [.bool _, .slice _ _ _]) (fr := [_]) H rfl rfl qy rfl rfl rfl rfl rfl rfl (by have hd := H.dist; simp only [List.pairwise_cons, List.mem_cons, List.not_mem_nil, or_false, forall_eq_or_imp, forall_eq, false_imp_iff, implies_true] at hd ⊢; try omega) (by unfold zh at *; omega) (fun s9 H => ?_)))))
  refine dr_store2 (vs := [.bool _, .slice _ _ _]) (fr := []) H rfl rfl qy rfl rfl rfl rfl rfl rfl (by have hd := H.dist; simp only [List.pairwise_cons, List.mem_cons, List.not_mem_nil, or_false, forall_eq_or_imp, forall_eq, false_imp_iff, implies_true] at hd ⊢; try omega) (by unfold zh at *; omega) (fun s10 H => ?_)
  refine z2 (zF (zt (end_cc qz rfl H.own3 rfl qz rfl H.own2 rfl ?_)))
  exact ⟨_, _, _, _, rfl, H.up (by omega), hqt.mono (by intro p hp; (try simp only [List.mem_cons, List.mem_append, List.not_mem_nil, or_false] at hp ⊢); first | exact hp | simp only [hp, true_or, or_true]), hdq.take _, by rw [List.length_take]; omega, hnb2⟩
 refine zc (za rfl (zf of56_0 rfl (za rfl (zj sh4 rfl H.own5 rfl (za rfl (zl rfl (za rfl (zf yK rfl (za rfl (zj qp rfl H.own0 rfl (za rfl (yf xO rfl rfl rfl (za rfl (qc rfl rfl (fun h => False.elim (by have h2 : ((0 : Nat) : Int) > 0 := h; omega)) (fun h => ?_)))))))))))))))
 refine za rfl (zK rfl rfl (zb (zx rfl (zA (zi (yC [⟨0, 0, .light, [1]⟩, ⟨1, 0, .light, [0]⟩, ⟨2, 1, .whole, [1]⟩, ⟨3, 7, .whole, []⟩] (by kernel_rfl) (by kernel_rfl) (yI rfl rfl qz rfl H.own1 (by exact H.lim1 (by unfold zh at *; omega)) rfl (yI rfl rfl qz rfl H.own0 (by exact H.lim0 (by unfold zh at *; omega)) rfl (dr_store3 (vs := [.bool _, .slice _ _ _]) (fr := [_]) H rfl rfl qy rfl rfl rfl rfl rfl rfl (by have hd := H.dist; simp only [List.pairwise_cons, List.mem_cons, List.not_mem_nil, or_false, forall_eq_or_imp, forall_eq, false_imp_iff, implies_true] at hd ⊢; try omega) (by unfold zh at *; omega) (fun s11 H => ?_))))))))))
 refine dr_store2 (vs := [.bool _, .slice _ _ _]) (fr := []) H rfl rfl qy rfl rfl rfl rfl rfl rfl (by have hd := H.dist; simp only [List.pairwise_cons, List.mem_cons, List.not_mem_nil, or_false, forall_eq_or_imp, forall_eq, false_imp_iff, implies_true] at hd ⊢; try omega) (by unfold zh at *; omega) (fun s12 H => ?_)
 refine z2 (zF (zt (end_cc qz rfl H.own3 rfl qz rfl H.own2 rfl ?_)))
 exact ⟨_, _, _, _, rfl, H.up (by omega), hqt.mono (by intro p hp; (try simp only [List.mem_cons, List.mem_append, List.not_mem_nil, or_false] at hp ⊢); first | exact hp | simp only [hp, true_or, or_true]), hdq.take _, by rw [List.length_take]; omega, hnb2⟩
set_option maxHeartbeats 4000000 in
set_option maxRecDepth 10000 in
theorem one_ok {I : zJ} (hI : Plain I) {s : St} (hf : Fine s) {n1 : Bool} {s1 : Value} {la : List Int} (ha : SlD s s1 la) (hroom : s.next + 1 ≤ zh) :
  ∃ v' s', yE Tryz.prog I 166 #[.agg ⟨[.bool n1, s1]⟩] s v' s' ∧ (∃ b, v' = .bool b ∧ HL [] s s' [] 1) := by
 have H := hf.hl
 obtain ⟨a, len, cap, rfl, hn⟩ := ha.isSlice
 rw [List.length_map] at hn
 subst hn
 refine zY 1 (hI 166 (by decide) (by decide) (by decide) (by decide)) Tryz.func166 rfl fb166 rfl ?_
 refine zc (za rfl (xc H rfl (by unfold zh at *; omega) (fun b1 s1 H => ?_)))
 refine za rfl (zk (zb (zq ?_)))
 cases n1
 ·refine zc (za rfl (zf of56_0 rfl (za rfl (zj sh4 rfl H.own0 rfl (za rfl (zl rfl (za rfl (zf yK rfl (za rfl (zj qp rfl H.own0 rfl (za rfl (yf xO rfl rfl rfl (za rfl (op_neq rfl rfl (fun h => ?_) (fun h => ?_)))))))))))))))
  ·refine za rfl (zW rfl rfl (zb (zE rfl (zc (za rfl (zk (zb (zF (zV (zt (z6 ?_)))))))))))
   exact ⟨_, rfl, H.drop0⟩
  refine za rfl (zW rfl rfl (zb (zx rfl (zA (zi (zc (za rfl (zf yK rfl (za rfl (zj qp rfl H.own0 rfl ?_))))))))))
  obtain ⟨b1, off1, c1, rfl, hg1, hb1, hc1⟩ := (ha.kept H).atD (i := 0) (k := 0) rfl (by omega)
  refine za rfl (zM el22 rfl rfl (by unfold zh at *; omega) (by unfold zh at *; omega) (za rfl (zj sh3 rfl hg1 hc1 (za rfl (op_eql' rfl rfl (za rfl (zw rfl (zb (zF (zt (z6 ?_)))))))))))
  exact ⟨_, rfl, H.drop0⟩
 refine zc (za rfl (zf of56_0 rfl (za rfl (zj sh4 rfl H.own0 rfl (za rfl (zl rfl (zg rfl (zg rfl (zg rfl (zg rfl (za rfl (yi rfl (zb (zE rfl (zc ?_)))))))))))))))
 refine za rfl (zk (zb (zF (zV (zt (z6 ?_))))))
 exact ⟨_, rfl, H.drop0⟩
end Go.Proofs.YtdejleegamcioaaGreat
