/- The reference of rational numbers and of vectors: whole numbers. -/
/- Slices of structs that a function owns. -/
import Derived.Test.YtdejleegamcioaaGreatP15
namespace Go.Proofs.YtdejleegamcioaaGreat
open Go Go.M
theorem fb164 : yw Tryz.f164 (Tryz.f164.body.getD .skip) 2 = true := by kernel_rfl
theorem fc165 : yk Tryz.prog 165 = true := by kernel_rfl
theorem bf58 : buildF Tryz.prog 58 = some ([.bool false, .slice none 0 0, .bool false, .slice none 0 0], [(0, 2), (2, 2)]) := by kernel_rfl
theorem fb112 : yw Tryz.f112 (Tryz.f112.body.getD .skip) 2 = true := by kernel_rfl
theorem fc164 : yk Tryz.prog 164 = true := by kernel_rfl
theorem fc166 : yk Tryz.prog 166 = true := by kernel_rfl
theorem sh58 : z1 Tryz.prog 58 = some (some 4) := by kernel_rfl
theorem sz58 : yR Tryz.prog 58 = some 4 := by kernel_rfl
theorem zf58 : xQ Tryz.prog 58 = some [.bool false, .slice none 0 0, .bool false, .slice none 0 0] := by kernel_rfl
theorem fb61 : yw Tryz.f61 (Tryz.f61.body.getD .skip) 2 = true := by kernel_rfl
theorem fc112 : yk Tryz.prog 112 = true := by kernel_rfl
theorem bf60 : buildF Tryz.prog 60 = some ([.bool false, .slice none 0 0, .bool false, .slice none 0 0, .bool false, .slice none 0 0, .bool false, .slice none 0 0], [(0, 4), (4, 4)]) := by kernel_rfl
theorem fb38 : yw Tryz.f38 (Tryz.f38.body.getD .skip) 2 = true := by kernel_rfl
theorem fc61 : yk Tryz.prog 61 = true := by kernel_rfl
theorem sh60 : z1 Tryz.prog 60 = some (some 8) := by kernel_rfl
theorem sz60 : yR Tryz.prog 60 = some 8 := by kernel_rfl
theorem zf60 : xQ Tryz.prog 60 = some [.bool false, .slice none 0 0, .bool false, .slice none 0 0, .bool false, .slice none 0 0, .bool false, .slice none 0 0] := by kernel_rfl
set_option maxHeartbeats 4000000 in
set_option maxRecDepth 10000 in
theorem gcd1_ok {I : zJ} (hI : Plain I) {s : St} (hf : Fine s) {n1 n2 : Bool} {s1 s2 : Value} {la : List Int} (ha : SlD s s1 la) (hb : SlD s s2 [1]) (hd : Dig la) (hlen : la.length ≤ 3) (hroom : s.next + 200000001000 ≤ zh) :
  ∃ v' s', yE Tryz.prog I 164 #[.agg ⟨[.bool n1, s1]⟩, .agg ⟨[.bool n2, s2]⟩] s v' s' ∧ (∃ D g, v' = .agg ⟨[.bool false, g]⟩ ∧ HL [] s s' D 200000001000 ∧ (SlIn D g [1] ∨ g = s2)) := by
 have H := hf.hl
 obtain ⟨a, len, cap, rfl, hn⟩ := ha.isSlice
 rw [List.length_map] at hn
 subst hn
 obtain ⟨a2, len, cap2, rfl, hn⟩ := hb.isSlice
 simp only [List.length_map, List.length_cons, List.length_nil, Nat.zero_add] at hn
 subst hn
 refine zY 2 (hI 164 (by decide) (by decide) (by decide) (by decide)) Tryz.func164 rfl fb164 rfl ?_
 refine zc (za rfl (xc H rfl (by unfold zh at *; omega) (fun b2 s1 H => ?_)))
 refine za rfl (xc H rfl (by unfold zh at *; omega) (fun b3 s2 H => ?_))
 refine za rfl (zC H zf56 (by unfold zh at *; omega) (fun b4 s3 H => ?_))
 refine zb (zc (za rfl (zf yK rfl (za rfl (zj qp rfl H.own2 rfl (za rfl (zo rfl fc167 rfl ?_)))))))
 obtain ⟨_, s9, hr, rfl, Hc⟩ := xE (l := la) (neg := false) hI H.fine (ha.kept H) (by omega) (by have := H.most; unfold zh at *; omega)
 refine ⟨_, _, hr, ?_⟩
 clear hr
 have H := H.call0 Hc
 clear Hc
 have hx := SlX.nv (s0 := s) (D := []) (.inr ha) (nlen_le la la.length)
 obtain ⟨ax, nx, cx, hxe, hnx⟩ := hx.isSlice
 rw [hxe] at hx
 rw [hxe]
 obtain ⟨lx, hlx⟩ : ∃ lx, lx = la.take (qB la la.length) := ⟨_, rfl⟩
 rw [← hlx] at hx hnx
 subst hnx
 have hdx : Dig lx := by rw [hlx]; exact hd.take _
 have hlenx : lx.length ≤ 3 := by rw [hlx, List.length_take]; omega
 have hneg0 : (if qB la la.length = 0 then false else false) = false := by split <;> rfl
 rw [hneg0]
 clear hneg0 hxe
 refine za rfl (zC H zf56 (by unfold zh at *; omega) (fun b5 s4 H => ?_))
 refine za rfl (zD (vs := [.bool _, .slice _ _ _]) H qy rfl rfl rfl rfl rfl (by unfold zh at *; omega) (fun s5 H => ?_))
 refine zb (zc (za rfl (zf yK rfl (za rfl (zj qp rfl H.own2 rfl (za rfl (zo rfl fc167 rfl ?_)))))))
 obtain ⟨_, s9, hr, rfl, Hc⟩ := xE (l := [1]) (a := a2) (cap := cap2) (neg := false) hI H.fine (hb.kept H) (by decide) (by have := H.most; unfold zh at *; omega)
 refine ⟨_, _, hr, ?_⟩
 clear hr
 have H := H.call0 Hc
 clear Hc
 have hnv : nv a2 (qB [1] ([1] : List Int).length) cap2 = .slice a2 1 cap2 := rfl
 rw [hnv]
 refine za rfl (zC H zf56 (by unfold zh at *; omega) (fun b6 s6 H => ?_))
 refine za rfl (zD (vs := [.bool _, .slice _ _ _]) H qy rfl rfl rfl rfl rfl (by unfold zh at *; omega) (fun s7 H => ?_))
 refine zb (zq (zI (cw_unroll (zq (zc (za rfl (zf yK rfl (za rfl (zj qp rfl H.own0 rfl (za rfl (yf xO rfl rfl rfl (za rfl (qc rfl rfl (fun h => ?_) (fun h => ?_))))))))))))))
 ·refine zb (zE rfl (zA (zi (zI (zq (zc (za rfl (zf yK rfl (za rfl (zj qp rfl H.own1 rfl (za rfl (yf xO rfl rfl rfl (za rfl (op_leq rfl rfl (fun h => ?_) (fun h => ?_)))))))))))))))
  ·refine za rfl (zl rfl (za rfl (zf yK rfl (za rfl (zj qp rfl H.own0 rfl (za rfl (yf xO rfl rfl rfl (za rfl (op_leq rfl rfl (fun h => ?_) (fun h => False.elim (by omega)))))))))))
   refine za rfl (zK rfl rfl (zb (zE rfl (zc (za rfl (zf yK rfl (za rfl (zj qp rfl H.own1 rfl (za rfl (zo rfl fc209 rfl ?_))))))))))
   obtain ⟨_, _, hr, rfl, rfl⟩ := tiny_ok (l := lx) hI (hx.sl H (by intro p hp; cases hp)) hdx
   refine ⟨_, _, hr, ?_⟩
   clear hr
   refine za rfl (zm rfl (zb (zc (za rfl (zf yK rfl (za rfl (zj qp rfl H.own0 rfl (za rfl (zo rfl fc209 rfl ?_)))))))))
   obtain ⟨_, _, hr, rfl, rfl⟩ := tiny_ok (l := [1]) hI (hb.kept H) (by intro x hx; simp at hx; omega)
   refine ⟨_, _, hr, ?_⟩
   clear hr
   refine za rfl (zm rfl (zb (zq (zI (cw_unroll (zq (zc (za rfl (zd rfl (za rfl (qc rfl rfl (fun h => ?_) (fun h => ?_))))))))))))
   ·refine zb (zE rfl (zA (zi (zI (zc (za rfl (zd rfl (za rfl (zd rfl (za rfl (op_rem rfl rfl (by decide) (za rfl (zm rfl (zb (zc ?_)))))))))))))))
    refine za rfl (zd rfl (za rfl (zm rfl (zb (zv (za rfl (zd rfl (za rfl (zm rfl (zb (zP (zi (cw_unroll (zq (zc ?_)))))))))))))))
    refine za rfl (zd rfl (za rfl (qc rfl rfl (fun h => ?_) (fun h => ?_))))
    ·refine zb (zE rfl (zA (zi (zI ?_))))
     exfalso
     have h2 : (0 : Int) < (lx.getD 1 0 * 1000000000 + lx.getD 0 0).tmod 1 := h
     rw [Int.tmod_one] at h2
     omega
    refine zb (zx rfl (yn (zX (zX (ye (zi (zc (za rfl (zd rfl (za rfl (zo rfl fc113 rfl ?_)))))))))))
    obtain ⟨_, s9, hr, D1, ra, rfl, Hc, hra⟩ := of03_ok (n := (([1] : List Int).getD 1 0 * 1000000000 + ([1] : List Int).getD 0 0)) hI H.fine ⟨by decide, by decide⟩ (by have := H.most; unfold zh at *; omega)
    refine ⟨_, _, hr, ?_⟩
    clear hr
    have H := H.callE Hc
    clear Hc
    try simp only [List.cons_append, List.nil_append, List.append_assoc] at H
    obtain ⟨ara, nra, cra, rfl, hnra⟩ := hra.isSlice
    refine za rfl (op_store2 (vs := [.bool _, .slice _ _ _]) H qy rfl rfl rfl rfl rfl (by unfold zh at *; omega) (fun s8 H => ?_))
    refine zb (zF (zV (yz (zV (yz (zV (zt (xB qz rfl H.own2 rfl ?_))))))))
    exact ⟨_, _, rfl, H.up (by omega), .inl (hra.mono (by intro p hp; (try simp only [List.mem_cons, List.mem_append, List.not_mem_nil, or_false] at hp ⊢); first | exact hp | simp only [hp, true_or, or_true]))⟩
   refine zb (zx rfl (yn (zX (zX (ye (zi ?_))))))
   exfalso
   exact h (by decide)
  refine za rfl (zl rfl (zg rfl (zg rfl (zg rfl (zg rfl (za rfl (zZ rfl (zb (zx rfl (zA (zi (zc (za rfl (z8 qz rfl H.own1 rfl ?_))))))))))))))
  refine za rfl (z8 qz rfl H.own0 rfl (za rfl (zo rfl fc165 rfl ?_)))
  obtain ⟨_, s9, hr, D1, nb, q, lq, rfl, Hc, hq, hdq, hlq, hnb⟩ := div1_ok (n1 := false) (la := lx) (s2 := .slice a2 1 cap2) hI H.fine (hx.sl H (by intro p hp; cases hp)) (hb.kept H) hdx hlenx (by have := H.most; unfold zh at *; omega)
  refine ⟨_, _, hr, ?_⟩
  clear hr
  have H := H.callE Hc
  clear Hc
  try simp only [List.cons_append, List.nil_append, List.append_assoc] at H
  obtain ⟨aq, nq, cq, rfl, hnq⟩ := hq.isSlice
  refine za rfl (yA rfl (za rfl (zH rfl rfl (za rfl (zH rfl rfl (za rfl (zC H zf56 (by unfold zh at *; omega) (fun b10 s9 H => ?_))))))))
  refine za rfl (zC H zf56 (by unfold zh at *; omega) (fun b11 s10 H => ?_))
  refine za rfl (x6 (vs := [.bool _, .slice _ _ _]) H qy rfl rfl rfl rfl rfl (by unfold zh at *; omega) (fun s11 H => ?_))
  refine za rfl (zD (vs := [.bool _, .slice _ _ _]) H qy rfl rfl rfl rfl rfl (by unfold zh at *; omega) (fun s12 H => ?_))
  refine zb (zc (za rfl (z8 qz rfl H.own2 rfl (za rfl (op_store3 (vs := [.bool _, .slice _ _ _]) H qy rfl rfl rfl rfl rfl (by unfold zh at *; omega) (fun s13 H => ?_))))))
  refine zb (zv (za rfl (z8 qz rfl H.own0 rfl (za rfl (op_store2 (vs := [.bool _, .slice _ _ _]) H qy rfl rfl rfl rfl rfl (by unfold zh at *; omega) (fun s14 H => ?_))))))
  refine zb (zP (zi (cw_unroll (zq (zc (za rfl (zf yK rfl (za rfl (zj qp rfl H.own2 rfl (za rfl (yf xO rfl rfl rfl (za rfl (qc rfl rfl (fun h => ?_) (fun h => ?_))))))))))))))
  ·refine zb (zE rfl (zA (zi (zI (zq ?_)))))
   exfalso
   have h2 : (0 : Int) < ((0 : Nat) : Int) := h
   omega
  refine zb (zx rfl (yn (zX (zX (ye (zi (zc (za rfl (z8 qz rfl H.own3 rfl (za rfl (op_store4 (vs := [.bool _, .slice _ _ _]) H qy rfl rfl rfl rfl rfl (by unfold zh at *; omega) (fun s15 H => ?_))))))))))))
  refine zb (zF (zt (xB qz rfl H.own4 rfl ?_)))
  exact ⟨_, _, rfl, H.up (by omega), .inr rfl⟩
 refine zb (zx rfl (yn (zX (zX (ye (zi ?_))))))
 exfalso
 have h2 : ¬ (0 : Int) < ((1 : Nat) : Int) := h
 omega
def SlB (D : Hp') (v : Value) (l : List Int) : Prop := SlIn D v l ∧ l.length ≤ 3
theorem SlB.mono {D D' : Hp'} {v : Value} {l : List Int} (h : SlB D v l) (hs : D ⊆ D') : SlB D' v l := ⟨h.1.mono hs, h.2⟩
theorem SlB.isSlice {D : Hp'} {v : Value} {l : List Int} (h : SlB D v l) : ∃ a n c, v = .slice a n c ∧ n = l.length := h.1.isSlice
set_option maxHeartbeats 4000000 in
set_option maxRecDepth 10000 in
theorem make1_ok {I : zJ} (hI : Plain I) {s : St} (hf : Fine s) {n1 : Bool} {s1 s2 : Value} {la : List Int} (ha : SlD s s1 la) (hb : SlD s s2 [1]) (hd : Dig la) (hlen : la.length ≤ 3) (hroom : s.next + 700000000000 ≤ zh) :
  ∃ v' s', yE Tryz.prog I 112 #[.agg ⟨[.bool n1, s1]⟩, .agg ⟨[.bool false, s2]⟩] s v' s' ∧ (∃ D x1 x2 x4 l2 l4, v' = .agg ⟨[.bool x1, x2, .bool false, x4]⟩ ∧ HL [] s s' D 700000000000 ∧ SlB D x2 l2 ∧ SlB D x4 l4) := by
 have H := hf.hl
 obtain ⟨a, len, cap, rfl, hn⟩ := ha.isSlice
 rw [List.length_map] at hn
 subst hn
 obtain ⟨a2, len, cap2, rfl, hn⟩ := hb.isSlice
 simp only [List.length_map, List.length_cons, List.length_nil, Nat.zero_add] at hn
 subst hn
 refine zY 2 (hI 112 (by decide) (by decide) (by decide) (by decide)) Tryz.func112 rfl fb112 rfl ?_
 refine zc (za rfl (xc H rfl (by unfold zh at *; omega) (fun b2 s1 H => ?_)))
 refine za rfl (xc H rfl (by unfold zh at *; omega) (fun b3 s2 H => ?_))
 refine za rfl (zC H zf58 (by unfold zh at *; omega) (fun b4 s3 H => ?_))
 refine zb (zq (zc (za rfl (zf yK rfl (za rfl (zj qp rfl H.own1 rfl (za rfl (yf xO rfl rfl rfl (za rfl (xf rfl rfl (fun h => False.elim (by omega)) (fun h => ?_)))))))))))
 refine za rfl (zl rfl (za rfl (zf yK rfl (za rfl (zj qp rfl H.own2 rfl (za rfl (yf xO rfl rfl rfl (za rfl (xf rfl rfl (fun h => ?_) (fun h => ?_))))))))))
 ·refine za rfl (zW rfl rfl (zb (zE rfl (zc (za rfl (yN (c := [.bool _, .slice _ _ _, .bool _, .slice _ _ _]) bf58 rfl (za rfl (zD (vs := [.bool _, .slice _ _ _, .bool _, .slice _ _ _]) H sz58 rfl rfl rfl rfl rfl (by unfold zh at *; omega) (fun s4 H => ?_)))))))))
  refine zb (zF (zV (zt (xB sh58 rfl H.own0 rfl ?_))))
  exact ⟨[], _, _, _, [], [], rfl, (H.sub (List.nil_sublist _)).up (by omega), ⟨.nil 0 rfl rfl, by simp⟩, ⟨.nil 0 rfl rfl, by simp⟩⟩
 refine za rfl (zW rfl rfl (zb (zx rfl (zA (zi (zc (za rfl (z8 qz rfl H.own2 rfl (za rfl (z8 qz rfl H.own1 rfl (za rfl (zo rfl fc164 rfl ?_))))))))))))
 obtain ⟨_, s9, hr, D1, g, rfl, Hc, hg⟩ := gcd1_ok (n1 := n1) (n2 := false) hI H.fine (ha.kept H) (hb.kept H) hd hlen (by have := H.most; unfold zh at *; omega)
 refine ⟨_, _, hr, ?_⟩
 clear hr
 have hgx : SlX s D1 g [1] := by
  rcases hg with h | h
  ·exact .inl h
  ·rw [h]; exact .inr hb
 clear hg
 have H := H.callE Hc
 clear Hc
 try simp only [List.cons_append, List.nil_append, List.append_assoc] at H
 obtain ⟨ag, ng, cg, rfl, hng⟩ := hgx.isSlice
 subst hng
 refine za rfl (zC H zf56 (by unfold zh at *; omega) (fun b5 s5 H => ?_))
 refine za rfl (zD (vs := [.bool _, .slice _ _ _]) H qy rfl rfl rfl rfl rfl (by unfold zh at *; omega) (fun s6 H => ?_))
 refine zb (zc (za rfl (z8 qz rfl H.own3 rfl (za rfl (z8 qz rfl H.own0 rfl (za rfl (zo rfl fc165 rfl ?_)))))))
 obtain ⟨_, s9, hr, D2, nb, q, lq, rfl, Hc, hq, hdq, hlq, hnb⟩ := div1_ok (n1 := n1) (la := la) hI H.fine (ha.kept H) (hgx.sl H (by intro p hp; (try simp only [List.mem_cons, List.mem_append, List.not_mem_nil, or_false] at hp ⊢); first | exact hp | simp only [hp, true_or, or_true])) hd hlen (by have := H.most; unfold zh at *; omega)
 refine ⟨_, _, hr, ?_⟩
 clear hr
 have H := H.callE Hc
 clear Hc
 try simp only [List.cons_append, List.nil_append, List.append_assoc] at H
 obtain ⟨aq, nq, cq, rfl, hnq⟩ := hq.isSlice
 refine za rfl (yA rfl (za rfl (zH rfl rfl (za rfl (zH rfl rfl (za rfl (zC H zf56 (by unfold zh at *; omega) (fun b6 s7 H => ?_))))))))
 refine za rfl (zC H zf56 (by unfold zh at *; omega) (fun b7 s8 H => ?_))
 refine za rfl (x6 (vs := [.bool _, .slice _ _ _]) H qy rfl rfl rfl rfl rfl (by unfold zh at *; omega) (fun s9 H => ?_))
 refine za rfl (zD (vs := [.bool _, .slice _ _ _]) H qy rfl rfl rfl rfl rfl (by unfold zh at *; omega) (fun s10 H => ?_))
 refine zb (zc (za rfl (z8 qz rfl H.own4 rfl (za rfl (z8 qz rfl H.own2 rfl (za rfl (zo rfl fc165 rfl ?_)))))))
 obtain ⟨_, s9, hr, D3, nb2, q2, lq2, rfl, Hc, hq2, hdq2, hlq2, hnb2⟩ := div1_ok (n1 := false) (la := [1]) hI H.fine (hb.kept H) (hgx.sl H (by intro p hp; (try simp only [List.mem_cons, List.mem_append, List.not_mem_nil, or_false] at hp ⊢); first | exact hp | simp only [hp, true_or, or_true])) (by intro x hx; simp at hx; omega) (by decide) (by have := H.most; unfold zh at *; omega)
 refine ⟨_, _, hr, ?_⟩
 clear hr
 have H := H.callE Hc
 clear Hc
 try simp only [List.cons_append, List.nil_append, List.append_assoc] at H
 obtain ⟨aq2, nq2, cq2, rfl, hnq2⟩ := hq2.isSlice
 have hnb3 := hnb2 rfl
 subst hnb3
 refine za rfl (yA rfl (za rfl (zH rfl rfl (za rfl (zH rfl rfl (za rfl (zC H zf56 (by unfold zh at *; omega) (fun b8 s11 H => ?_))))))))
 refine za rfl (zC H zf56 (by unfold zh at *; omega) (fun b9 s12 H => ?_))
 refine za rfl (x6 (vs := [.bool _, .slice _ _ _]) H qy rfl rfl rfl rfl rfl (by unfold zh at *; omega) (fun s13 H => ?_))
 refine za rfl (zD (vs := [.bool _, .slice _ _ _]) H qy rfl rfl rfl rfl rfl (by unfold zh at *; omega) (fun s14 H => ?_))
 refine zb (zq (zc (za rfl (zf of56_0 rfl (za rfl (zj sh4 rfl H.own1 rfl (zb (zx rfl (zA (zi (zq (zc (za rfl (z8 qz rfl H.own1 rfl ?_))))))))))))))
 refine za rfl (zo rfl fc166 rfl ?_)
 obtain ⟨_, s9, hr, bb, rfl, Hc⟩ := one_ok (n1 := false) hI H.fine (hq2.sl H (by intro p hp; (try simp only [List.mem_cons, List.mem_append, List.not_mem_nil, or_false] at hp ⊢); first | exact hp | simp only [hp, true_or, or_true])) (by have := H.most; unfold zh at *; omega)
 refine ⟨_, _, hr, ?_⟩
 clear hr
 have H := H.call0 Hc
 clear Hc
 cases bb
 ·refine zb (zx rfl (zA (zi (zc (za rfl (z8 qz rfl H.own3 rfl (za rfl (z8 qz rfl H.own1 rfl (za rfl (yN (c := [.bool _, .slice _ _ _, .bool _, .slice _ _ _]) bf58 rfl (za rfl (op_store5 (vs := [.bool _, .slice _ _ _, .bool _, .slice _ _ _]) H sz58 rfl rfl rfl rfl rfl (by unfold zh at *; omega) (fun s15 H => ?_)))))))))))))
  refine zb (zF (zt (xB sh58 rfl H.own5 rfl ?_)))
  exact ⟨_, _, _, _, _, _, rfl, H.up (by omega), ⟨hq.mono (by intro p hp; (try simp only [List.mem_cons, List.mem_append, List.not_mem_nil, or_false] at hp ⊢); first | exact hp | simp only [hp, true_or, or_true]), hlq⟩, ⟨hq2.mono (by intro p hp; (try simp only [List.mem_cons, List.mem_append, List.not_mem_nil, or_false] at hp ⊢); first | exact hp | simp only [hp, true_or, or_true]), hlq2⟩⟩
 refine zb (zE rfl (zc (za rfl (z8 qz rfl H.own3 rfl (za rfl (yN (c := [.bool _, .slice _ _ _, .bool _, .slice _ _ _]) bf58 rfl (za rfl (op_store5 (vs := [.bool _, .slice _ _ _, .bool _, .slice _ _ _]) H sz58 rfl rfl rfl rfl rfl (by unfold zh at *; omega) (fun s16 H => ?_)))))))))
 refine zb (zF (zV (zt (xB sh58 rfl H.own5 rfl ?_))))
 exact ⟨_, _, _, _, _, [], rfl, H.up (by omega), ⟨hq.mono (by intro p hp; (try simp only [List.mem_cons, List.mem_append, List.not_mem_nil, or_false] at hp ⊢); first | exact hp | simp only [hp, true_or, or_true]), hlq⟩, ⟨.nil 0 rfl rfl, by simp⟩⟩
set_option maxHeartbeats 4000000 in
set_option maxRecDepth 10000 in
theorem of04_ok {I : zJ} (hI : Plain I) {s : St} (hf : Fine s) {p : Int} (hp : zQ p) (hroom : s.next + 800000000000 ≤ zh) :
  ∃ v' s', yE Tryz.prog I 61 #[.int .i64 p, .int .i64 1] s v' s' ∧ (∃ D x1 x2 x4 l2 l4, v' = .agg ⟨[.bool x1, x2, .bool false, x4]⟩ ∧ HL [] s s' D 800000000000 ∧ SlB D x2 l2 ∧ SlB D x4 l4) := by
 have H := hf.hl
 refine zY 2 (hI 61 (by decide) (by decide) (by decide) (by decide)) Tryz.func61 rfl fb61 rfl ?_
 refine zc (za rfl (zC H zf58 (by unfold zh at *; omega) (fun b4 s1 H => ?_)))
 refine zb (zc (za rfl (zd rfl (za rfl (zo rfl fc113 rfl ?_)))))
 obtain ⟨_, s9, hr, D1, ra, rfl, Hc, hra⟩ := of03_ok (n := p) hI H.fine hp (by have := H.most; unfold zh at *; omega)
 refine ⟨_, _, hr, ?_⟩
 clear hr
 have H := H.callE Hc
 clear Hc
 try simp only [List.cons_append, List.nil_append, List.append_assoc] at H
 obtain ⟨ara, nra, cra, rfl, hnra⟩ := hra.isSlice
 refine za rfl (zd rfl (za rfl (zo rfl fc113 rfl ?_)))
 obtain ⟨_, s9, hr, D2, rb, rfl, Hc, hrb⟩ := of03_ok (n := 1) hI H.fine ⟨by decide, by decide⟩ (by have := H.most; unfold zh at *; omega)
 refine ⟨_, _, hr, ?_⟩
 clear hr
 have H := H.callE Hc
 clear Hc
 try simp only [List.cons_append, List.nil_append, List.append_assoc] at H
 obtain ⟨arb, nrb, crb, rfl, hnrb⟩ := hrb.isSlice
 refine za rfl (zo rfl fc112 rfl ?_)
 obtain ⟨_, s9, hr, D3, x1, x2, x4, l2, l4, rfl, Hc, h2, h4⟩ := make1_ok (n1 := decide (p < 0)) hI H.fine (hra.sl H (by intro p hp; (try simp only [List.mem_cons, List.mem_append, List.not_mem_nil, or_false] at hp ⊢); first | exact hp | simp only [hp, true_or, or_true])) (hrb.sl H (by intro p hp; (try simp only [List.mem_cons, List.mem_append, List.not_mem_nil, or_false] at hp ⊢); first | exact hp | simp only [hp, true_or, or_true])) (dgs_dig _ _) (qG _ _) (by have := H.most; unfold zh at *; omega)
 refine ⟨_, _, hr, ?_⟩
 clear hr
 have H := H.callE Hc
 clear Hc
 try simp only [List.cons_append, List.nil_append, List.append_assoc] at H
 obtain ⟨a2, n2, c2, rfl, hn2⟩ := h2.isSlice
 obtain ⟨a4, n4, c4, rfl, hn4⟩ := h4.isSlice
 refine za rfl (zD (vs := [.bool _, .slice _ _ _, .bool _, .slice _ _ _]) H sz58 rfl rfl rfl rfl rfl (by unfold zh at *; omega) (fun s2 H => ?_))
 refine zb (zF (zt (xB sh58 rfl H.own0 rfl ?_)))
 exact ⟨_, _, _, _, _, _, rfl, H.up (by omega), h2.mono (by intro p hp; (try simp only [List.mem_cons, List.mem_append, List.not_mem_nil, or_false] at hp ⊢); first | exact hp | simp only [hp, true_or, or_true]), h4.mono (by intro p hp; (try simp only [List.mem_cons, List.mem_append, List.not_mem_nil, or_false] at hp ⊢); first | exact hp | simp only [hp, true_or, or_true])⟩
def vecC (n1 : Bool) (s1 : Slc) (n2 : Bool) (s2 : Slc) (n3 : Bool) (s3 : Slc) (n4 : Bool) (s4 : Slc) : List Value := [.bool n1, s1.v, .bool n2, s2.v, .bool n3, s3.v, .bool n4, s4.v]
set_option maxHeartbeats 4000000 in
set_option maxRecDepth 10000 in
theorem of05_ok {I : zJ} (hI : Plain I) {s : St} (hf : Fine s) {x y : Int} (hx : zQ x) (hy : zQ y) (hroom : s.next + 2000000000000 ≤ zh) :
  ∃ v' s', yE Tryz.prog I 38 #[.int .i64 x, .int .i64 y] s v' s' ∧ (∃ D n1 s1 s2 n3 s3 s4 l1 l2 l3 l4, v' = .agg ⟨vecC n1 s1 false s2 n3 s3 false s4⟩ ∧ HL [] s s' D 2000000000000 ∧ SlB D s1.v l1 ∧ SlB D s2.v l2 ∧ SlB D s3.v l3 ∧ SlB D s4.v l4) := by
 have H := hf.hl
 refine zY 2 (hI 38 (by decide) (by decide) (by decide) (by decide)) Tryz.func38 rfl fb38 rfl ?_
 refine zc (za rfl (zC H zf60 (by unfold zh at *; omega) (fun b4 s1 H => ?_)))
 refine zb (zc (za rfl (zd rfl (za rfl (zo rfl fc61 rfl ?_)))))
 obtain ⟨_, s9, hr, D1, xa1, xa2, xa4, la2, la4, rfl, Hc, ha2, ha4⟩ := of04_ok (p := x) hI H.fine hx (by have := H.most; unfold zh at *; omega)
 refine ⟨_, _, hr, ?_⟩
 clear hr
 have H := H.callE Hc
 clear Hc
 try simp only [List.cons_append, List.nil_append, List.append_assoc] at H
 obtain ⟨aa2, na2, ca2, rfl, hna2⟩ := ha2.isSlice
 obtain ⟨aa4, na4, ca4, rfl, hna4⟩ := ha4.isSlice
 refine za rfl (zd rfl (za rfl (zo rfl fc61 rfl ?_)))
 obtain ⟨_, s9, hr, D2, xb1, xb2, xb4, lb2, lb4, rfl, Hc, hb2, hb4⟩ := of04_ok (p := y) hI H.fine hy (by have := H.most; unfold zh at *; omega)
 refine ⟨_, _, hr, ?_⟩
 clear hr
 have H := H.callE Hc
 clear Hc
 try simp only [List.cons_append, List.nil_append, List.append_assoc] at H
 obtain ⟨ab2, nb2, cb2, rfl, hnb2⟩ := hb2.isSlice
 obtain ⟨ab4, nb4, cb4, rfl, hnb4⟩ := hb4.isSlice
 refine za rfl (yN (c := [.bool _, .slice _ _ _, .bool _, .slice _ _ _, .bool _, .slice _ _ _, .bool _, .slice _ _ _]) bf60 rfl (za rfl (zD (vs := [.bool _, .slice _ _ _, .bool _, .slice _ _ _, .bool _, .slice _ _ _, .bool _, .slice _ _ _]) H sz60 rfl rfl rfl rfl rfl (by unfold zh at *; omega) (fun s2 H => ?_))))
 refine zb (zF (zt (xB sh60 rfl H.own0 rfl ?_)))
 exact ⟨_, _, ⟨_, _, _⟩, ⟨_, _, _⟩, _, ⟨_, _, _⟩, ⟨_, _, _⟩, _, _, _, _, rfl, H.up (by omega), ha2.mono (by intro p hp; (try simp only [List.mem_cons, List.mem_append, List.not_mem_nil, or_false] at hp ⊢); first | exact hp | simp only [hp, true_or, or_true]), ha4.mono (by intro p hp; (try simp only [List.mem_cons, List.mem_append, List.not_mem_nil, or_false] at hp ⊢); first | exact hp | simp only [hp, true_or, or_true]), hb2.mono (by intro p hp; (try simp only [List.mem_cons, List.mem_append, List.not_mem_nil, or_false] at hp ⊢); first | exact hp | simp only [hp, true_or, or_true]), hb4.mono (by intro p hp; (try simp only [List.mem_cons, List.mem_append, List.not_mem_nil, or_false] at hp ⊢); first | exact hp | simp only [hp, true_or, or_true])⟩
end Go.Proofs.YtdejleegamcioaaGreat
namespace Go.Proofs.YtdejleegamcioaaGreat
open Go Go.M
inductive SlG (D : Hp') (e : TypeId) (sz : Nat) (v : Value) (es : List (List Value)) : Prop
 | nil (c : Nat) (hv : v = .slice none 0 c) (hl : es = []) : SlG D e sz v es
 | block (b off cap : Nat) (c : List Value) (hv : v = .slice (some ⟨b, off, none⟩) es.length cap) (hg : (b, .cells c e) ∈ D) (hcap : es.length ≤ cap / 2) (hc : ∀ k, k < es.length → xd sz (xy (off + k * sz) c) = some (es.getD k [])) : SlG D e sz v es
theorem SlG.sl {D : Hp'} {e : TypeId} {sz : Nat} {v : Value} {es : List (List Value)} (h : SlG D e sz v es) {W : List Nat} {s0 s : St} {L : Hp'} {n : Nat} (H : HL W s0 s L n) (hs : D ⊆ L) : Sl s e sz v es := by
 cases h with
 | nil c hv hl => exact .nil c hv hl
 | block b off cap c hv hg hcap hc =>
  have ho := H.own _ (hs hg)
  exact .block b off cap c hv ho.1 ho.2.1 hcap hc
theorem SlG.mono {D D' : Hp'} {e : TypeId} {sz : Nat} {v : Value} {es : List (List Value)} (h : SlG D e sz v es) (hs : D ⊆ D') : SlG D' e sz v es := by
 cases h with
 | nil c hv hl => exact .nil c hv hl
 | block b off cap c hv hg hcap hc => exact .block b off cap c hv (hs hg) hcap hc
theorem flat_len {sz : Nat} : ∀ {es : List (List Value)}, (∀ x ∈ es, x.length = sz) → es.flatten.length = es.length * sz
 | [], _ => by simp
 | x :: es, h => by
  rw [List.flatten_cons, List.length_append, h x (by simp), flat_len fun y hy => h y (by simp [hy]), List.length_cons, Nat.add_mul]
  omega
theorem flat_drop {sz : Nat} : ∀ {es : List (List Value)} (k : Nat), (∀ x ∈ es, x.length = sz) → es.flatten.drop (k * sz) = (es.drop k).flatten
 | [], k, _ => by simp
 | x :: es, 0, _ => by simp
 | x :: es, k + 1, h => by
  have hx := h x (by simp)
  rw [List.flatten_cons, List.drop_succ_cons, ← flat_drop k fun y hy => h y (by simp [hy]), Nat.add_mul, Nat.one_mul, Nat.add_comm, ← List.drop_drop, ← hx, List.drop_left]
theorem flat_get {sz : Nat} {es : List (List Value)} (h : ∀ x ∈ es, x.length = sz) {k : Nat} (hk : k < es.length) : xd sz (xy (0 + k * sz) es.flatten) = some (es.getD k []) := by
 rw [xX, qi, Nat.zero_add, flat_drop k h, yW [] hk, List.flatten_cons]
 have hx : (es.getD k []).length = sz := h _ (yu hk)
 rw [if_pos (by rw [List.length_append]; omega), ← hx, List.take_left]
theorem Own.slG {D : Hp'} {e : TypeId} {sz : Nat} {v : Value} {es : List (List Value)} (hz : ∀ x ∈ es, x.length = sz) (h : Own e sz D v es.flatten es.length) : SlG D e sz v es := by
 generalize hc : es.flatten = c at h
 generalize hl : es.length = n at h
 cases h with
 | nil => exact .nil 0 rfl (List.length_eq_zero_iff.mp hl)
 | block b cap c len hlen hcap =>
  subst hc
  refine .block b 0 cap _ (by rw [hl]) (by simp) (by omega) fun k hk => flat_get hz hk
theorem _root_.Go.M.HL.perm {W : List Nat} {s0 s : St} {L L' : Hp'} {n : Nat} (H : HL W s0 s L n) (h : L.Perm L') : HL W s0 s L' n :=
 { H with own := fun p hp => H.own p (h.mem_iff.mpr hp), dist := (h.pairwise_iff (fun h => Ne.symm h)).mp H.dist }
theorem _root_.Go.M.HL.mid {W : List Nat} {s0 s : St} {A B C : Hp'} {n : Nat} (H : HL W s0 s (A ++ (B ++ C)) n) : HL W s0 s (B ++ (A ++ C)) n := H.perm (List.perm_append_comm_assoc A B C)
theorem _root_.Go.M.HL.swap {W : List Nat} {s0 s : St} {A B : Hp'} {n : Nat} (H : HL W s0 s (A ++ B) n) : HL W s0 s (B ++ A) n := H.perm List.perm_append_comm
theorem _root_.Go.M.HL.mid2 {W : List Nat} {s0 s : St} {A B C E : Hp'} {n : Nat} (H : HL W s0 s (A ++ (B ++ (C ++ E))) n) : HL W s0 s (C ++ (A ++ (B ++ E))) n :=
 Go.M.HL.mid (Go.M.HL.perm H ((List.perm_append_comm_assoc B C E).append_left A))
theorem atZ_range {l : List Int} {i n : Int} (hn : 0 < n) : 0 ≤ atZ l i n ∧ atZ l i n < n := by
 unfold atZ
 split
 ·omega
 ·unfold aroundZ
  generalize hx : (if l.getD i.toNat 0 < 0 then -(l.getD i.toNat 0 + 1) else l.getD i.toNat 0) = x
  have h0 : 0 ≤ x := by rw [← hx]; split <;> omega
  rw [Int.tmod_eq_emod_of_nonneg h0]
  exact ⟨Int.emod_nonneg _ (by omega), Int.emod_lt_of_pos _ hn⟩
theorem SlI.kept {s s' : St} {v : Value} {l : List Int} {L : Hp'} {n : Nat} (h : SlI s v l) (H : HL [] s s' L n) : SlI s' v l := by
 cases h with
 | nil c hv hl => exact .nil c hv hl
 | block b off cap c e hv hg hb hc => exact .block b off cap c e hv (H.old hb hg) (by have := H.le; omega) hc
theorem SlI.isSlice {s : St} {v : Value} {l : List Int} (h : SlI s v l) : ∃ a len cap, v = .slice a len cap ∧ len = l.length := by
 cases h with
 | nil c hv hl => exact ⟨_, _, _, hv, by rw [hl]; rfl⟩
 | block b off cap c e hv => exact ⟨_, _, _, hv, rfl⟩
def DirIn (D : Hp') (x : Sp) : Prop := x.n2 = false ∧ x.n4 = false ∧ ∃ l1 l2 l3 l4, SlB D x.s1.v l1 ∧ SlB D x.s2.v l2 ∧ SlB D x.s3.v l3 ∧ SlB D x.s4.v l4
theorem DirIn.mono {D D' : Hp'} {x : Sp} (h : DirIn D x) (hs : D ⊆ D') : DirIn D' x := by
 obtain ⟨e1, e2, l1, l2, l3, l4, h1, h2, h3, h4⟩ := h
 exact ⟨e1, e2, l1, l2, l3, l4, h1.mono hs, h2.mono hs, h3.mono hs, h4.mono hs⟩
theorem flat_snoc {α : Type} {f : α → List Value} {l : List α} {x : α} : ((l ++ [x]).map f).flatten = (l.map f).flatten ++ f x := by simp
theorem ints_flat (l : List Int) : z7 l = (l.map dc).flatten := by
 induction l with
 | nil => rfl
 | cons x l ih => simp only [z7, List.map_cons, List.flatten_cons] at ih ⊢; rw [ih]; rfl
theorem two_pow8 {n : Nat} (h : n ≤ 8) : (1 : Int) ≤ 2 ^ n ∧ (2 : Int) ^ n ≤ 256 := by
 have h1 : (2 : Nat) ^ n ≤ 2 ^ 8 := Nat.pow_le_pow_right (by decide) h
 have h2 : 1 ≤ (2 : Nat) ^ n := Nat.one_le_two_pow
 have e : ((2 : Int) ^ n) = (((2 : Nat) ^ n : Nat) : Int) := by simp
 rw [e]
 have : (2 : Nat) ^ 8 = 256 := by decide
 omega
end Go.Proofs.YtdejleegamcioaaGreat
