/- The reference of cleanings: the sets that come about. -/
import Derived.Test.YtdejleegamcioaaGreatC19
namespace Go.Proofs.YtdejleegamcioaaGreat
open Go Go.M
theorem fb54 : yx Tryz.f54 (Tryz.f54.body.getD .skip) 4 = true := by kernel_rfl
theorem fc36 : yp Tryz.prog 36 = true := by kernel_rfl
theorem fc55 : yp Tryz.prog 55 = true := by kernel_rfl
theorem fc92 : yp Tryz.prog 92 = true := by kernel_rfl
theorem fc93 : yp Tryz.prog 93 = true := by kernel_rfl
theorem rch_len {js : List (Int × Int)} {bad : Int} {may : List Sp} (hm : yZ may) {w : Int} (h0 : 0 < w) (h1 : w < 65536) {out : List Int} (hi : Inc out) (hr : ∀ x ∈ out, Rch js bad may w x) : out.length ≤ 65535 :=
 nodup_len 65535 out hi.nodup fun x hx => by have := (hr x hx).range hm h0; omega
theorem clo_take {js : List (Int × Int)} {bad : Int} {may : List Sp} {out : List Int} {i : Nat} (hi : i < may.length) (h : Clo js bad (may.take i) out)
  (hm : (may.getD i default).w ∈ out → yj (may.getD i default).w bad 0 js = true → (may.getD i default).p ∈ out ∧ zJ (may.getD i default).w (may.getD i default).p ∈ out) : Clo js bad (may.take (i + 1)) out := by
 intro m hmm hw hn
 rcases yH hi hmm with hmm | hmm
 ·exact h m hmm hw hn
 ·subst hmm; exact hm hw hn
theorem two_adds {l : List Int} {p q : Int} (h : Inc l) : l.length ≤ (qB (qB l p) q).length ∧ (qB (qB l p) q).length ≤ l.length + 2 ∧ ((qB (qB l p) q).length ≤ l.length → p ∈ l ∧ q ∈ l) := by
 have h1 := addZ_len (x := p) h
 have h2 := addZ_len (x := q) (addZ_inc (x := p) h)
 refine ⟨by omega, by omega, fun h3 => ?_⟩
 have hp := h1.2.2 (by omega)
 have hq := h2.2.2 (by omega)
 rw [addZ_old h hp] at hq
 exact ⟨hp, hq⟩
set_option maxHeartbeats 4000000 in
set_option maxRecDepth 10000 in
theorem reached_ok {I : yh} (hI : Plain I) {s : St} (hf : Fine s) {w bad : Int} {vj vm : Value} {js : List (Int × Int)} {may : List Sp} (hJ : Sl s 30 2 vj (js.map jc)) (hM : Sl s 62 10 vm (may.map Sp.cells)) (hj : ∀ j ∈ js, kf j) (hjl : js.length ≤ 16) (hm : yZ may) (hml : may.length ≤ 15) (hw0 : 0 < w) (hw1 : w < 65536) (hroom : s.next + 1031020300000 ≤ zp) :
  ∃ v' s', yJ Tryz.prog I 54 #[.int .i64 w, vj, .int .i64 bad, vm] s v' s' ∧ (∃ (D : Hp') (so : Slc) (ks : List Int), v' = so.v ∧ HL [] s s' D 1031020300000 ∧ SlG D 23 1 so.v (ks.map dc) ∧ Inc ks ∧ (∀ k, k ∈ ks ↔ Rch js bad may w k)) := by
 have H := hf.hl
 obtain ⟨ja, jn, jcp, rfl, hjn⟩ := hJ.isSlice
 rw [List.length_map] at hjn
 subst hjn
 obtain ⟨ma, mn, mcp, rfl, hmn⟩ := hM.isSlice
 rw [List.length_map] at hmn
 subst hmn
 refine yf 4 (hI 54 (by decide) (by decide)) Tryz.func54 rfl fb54 rfl ?_
 refine zf (za rfl (zh (zb (zf (za rfl (ze rfl (za rfl (z8 (c := [.int _ _]) H qs rfl rfl (by omega) (fun b15 s1 H => ?_)))))))))
 refine za rfl (zO rfl (zb (zf (za rfl (zh (zb (zy (zH (yu (fun k F s1 => ∃ (G : FF) (r : Nat) (D1 : Hp') (so : Slc) (out : List Int) (ch : Bool), F = lay G [(0, .int .i64 w), (1, .slice ja js.length jcp), (2, .int .i64 bad), (3, .slice ma may.length mcp), (9, so.v), (10, .bool ch)] ∧ HL [] s s1 D1 (1 + 7866000 * r) ∧ SlG D1 23 1 so.v (out.map dc) ∧ Inc out ∧ w ∈ out ∧ (∀ x ∈ out, Rch js bad may w x) ∧ (ch = false → Clo js bad may out) ∧ r + k ≤ 131073 ∧ k = 2 * (65536 - out.length) + cond ch 1 0) ?_ 131071 _ _ ?_)))))))))
 rotate_left
 ·refine ⟨_, 0, [(b15, .cells [.int .i64 w] 23)], ⟨some ⟨b15, 0, none⟩, 1, 2⟩, [w], true, yb ⟨rfl, rfl, rfl, rfl, rfl, rfl, trivial⟩, H, SlG.block b15 0 2 [.int .i64 w] rfl (by simp) (by simp) (by intro k hk; simp only [List.map_cons, List.map_nil, List.length_singleton] at hk; obtain rfl : k = 0 := (by omega); rfl), by simp, by simp, (by intro x hx; rw [List.mem_singleton] at hx; subst hx; exact .self), (fun h => by cases h), by omega, by simp⟩
 rintro k F s1 ⟨G, r, D1, so, out, ch, rfl, H, hG, hinc, hw, hrc, hcl, hrk, rfl⟩
 obtain ⟨soa, son, soc⟩ := so
 have hsn := hG.slc
 rw [List.length_map] at hsn
 simp only at hsn
 subst hsn
 have hol := rch_len hm hw0 hw1 hinc hrc
 refine zy ?_
 cases ch
 ·refine zf (za rfl (zi rfl (zb (zw rfl (yc (zQ (ya (zY (zj (zf (za rfl (zk rfl (za rfl (zO rfl ?_))))))))))))))
  refine zb (zr (zm (zN (⟨D1, ⟨soa, out.length, soc⟩, out, rfl, H.up (by omega), hG, hinc, fun x => ⟨hrc x, fun hx => (hcl rfl).all hw hx⟩⟩))))
 refine zf (za rfl (zi rfl (zb (zq rfl (zD (zj (zH (zf (za rfl (zh (zb ?_)))))))))))
 obtain ⟨n0, hn0⟩ : ∃ n0, n0 = out.length := ⟨_, rfl⟩
 obtain ⟨N0, hN0⟩ : ∃ N0, N0 = 1 + 7866000 * r := ⟨_, rfl⟩
 rw [← hN0] at H
 simp only [cond_true] at hrk
 refine zf (za rfl (zh (zb (zH (yu (fun k F s1 => ∃ (G : FF) (i : Nat) (D1 : Hp') (so : Slc) (out : List Int) (c : Bool), F = lay G [(0, .int .i64 w), (1, .slice ja js.length jcp), (2, .int .i64 bad), (3, .slice ma may.length mcp), (9, so.v), (10, .bool c), (11, .int .i64 (i : Int))] ∧ HL [] s s1 D1 (N0 + 524400 * i) ∧ SlG D1 23 1 so.v (out.map dc) ∧ Inc out ∧ w ∈ out ∧ (∀ x ∈ out, Rch js bad may w x) ∧ n0 ≤ out.length ∧ (c = true → n0 < out.length) ∧ (c = false → Clo js bad (may.take i) out) ∧ i ≤ may.length ∧ k = may.length - i) ?_ may.length _ _ ?_)))))
 rotate_left
 ·refine ⟨_, 0, D1, ⟨soa, out.length, soc⟩, out, false, yb ⟨rfl, rfl, rfl, rfl, rfl, rfl, rfl, trivial⟩, H, hG, hinc, hw, hrc, by omega, (fun h => by cases h), (fun _ m hmm => by simp at hmm), by omega, by omega⟩
 rintro k F s1 ⟨G, i, D1, so, out, c, rfl, H, hG, hinc, hw, hrc, hn1, hct, hcf, hi, rfl⟩
 obtain ⟨soa, son, soc⟩ := so
 have hsn := hG.slc
 rw [List.length_map] at hsn
 simp only at hsn
 subst hsn
 have hol := rch_len hm hw0 hw1 hinc hrc
 refine zy (zf (za rfl (ze rfl (za rfl (zk rfl (za rfl (zZ xM rfl rfl rfl (za rfl (ye rfl rfl (fun h => ?_) (fun h => ?_))))))))))
 ·refine zb (zq rfl (zD (zj (zy (zH (zf (za rfl (zk rfl (za rfl (ze rfl ?_))))))))))
  obtain ⟨bm, ofm, cmm, rfl, hgm, hbm, hcm⟩ := (hM.kept H).atS rfl (show i < may.length by omega)
  refine za rfl (zA x9 rfl rfl (by omega) (by omega) (za rfl (z7 sh62 rfl hgm hcm (za rfl (yi H zf62 (by omega) (fun b12 s2 H => ?_))))))
  refine za rfl (yg (vs := [.int _ _, .int _ _, .bool _, .slice _ _ _, .bool _, .slice _ _ _, .bool _, .slice _ _ _, .bool _, .slice _ _ _]) H sz62 rfl rfl rfl rfl rfl (by omega) (fun s3 H => ?_))
  refine zb (zy (zf (za rfl (zk rfl (za rfl (zg xi rfl (za rfl (zn ys rfl H.own0 rfl (za rfl (zx rfl fc92 rfl ?_))))))))))
  obtain ⟨_, _, hr, rfl, rfl⟩ := hasL_ok (x := (may.getD i default).w) hI (hG.sl H (by intro p hp; (try simp only [List.mem_cons, List.mem_append, List.not_mem_nil, or_false] at hp ⊢); first | exact hp | simp only [hp, true_or, or_true])) (by omega)
  refine ⟨_, _, hr, ?_⟩
  clear hr
  cases hh : decide ((may.getD i default).w ∈ out)
  ·refine za rfl (yz rfl (za rfl (zi rfl (zc rfl (zc rfl (zc rfl (zc rfl (zc rfl (zc rfl (za rfl (zB rfl (zb (zq rfl (yc ?_))))))))))))))
   refine zQ (zY (zj (zC (za rfl (ze rfl (za rfl (zW rfl rfl (by unfold zV; omega) (za rfl (zl rfl (zb (zI (⟨may.length - (i + 1), by omega, _, i + 1, D1, ⟨soa, out.length, soc⟩, out, c, yb ⟨rfl, rfl, rfl, rfl, rfl, rfl, rfl, trivial⟩, (H.drop0).up (by omega), hG, hinc, hw, hrc, hn1, hct, (fun hc => clo_take (by omega) (hcf hc) (fun h1 h2 => ?_)), by omega, rfl⟩))))))))))))
   (exact absurd h1 (of_decide_eq_false hh))
  refine za rfl (yz rfl (za rfl (zi rfl (za rfl (zg xi rfl (za rfl (zn ys rfl H.own0 rfl (za rfl (zk rfl (za rfl (ze rfl (za rfl (zx rfl fc55 rfl ?_)))))))))))))
  obtain ⟨_, _, hr, rfl, rfl⟩ := needsR_ok (x := (may.getD i default).w) (bad := bad) hI (hJ.kept H) hj hjl
  refine ⟨_, _, hr, ?_⟩
  clear hr
  cases hnd : yj (may.getD i default).w bad 0 js
  ·refine za rfl (yz rfl (za rfl (zv rfl rfl (zb (zq rfl (yc (zQ (zY (zj (zC (za rfl (ze rfl (za rfl (zW rfl rfl (by unfold zV; omega) (za rfl (zl rfl ?_))))))))))))))))
   refine zb (zI (⟨may.length - (i + 1), by omega, _, i + 1, D1, ⟨soa, out.length, soc⟩, out, c, yb ⟨rfl, rfl, rfl, rfl, rfl, rfl, rfl, trivial⟩, (H.drop0).up (by omega), hG, hinc, hw, hrc, hn1, hct, (fun hc => clo_take (by omega) (hcf hc) (fun h1 h2 => ?_)), by omega, rfl⟩))
   (rw [hnd] at h2; cases h2)
  refine za rfl (yz rfl (za rfl (zv rfl rfl (zb (zw rfl (zD (zj (zf (za rfl (zk rfl (za rfl (zZ qd rfl rfl rfl (za rfl (zl rfl (zb ?_)))))))))))))))
  have h2a := two_adds (p := (may.getD i default).p) (q := (zJ (may.getD i default).w (may.getD i default).p)) hinc
  have h1a := addZ_len (x := (may.getD i default).p) hinc
  refine yn [⟨0, 0, .light, [2, 4]⟩, ⟨1, 0, .light, [4]⟩, ⟨2, 2, .light, [4]⟩, ⟨4, 0, .light, [2]⟩, ⟨3, 7, .whole, [4]⟩, ⟨5, 31, .whole, []⟩, ⟨6, 63, .whole, []⟩, ⟨7, 127, .light, []⟩] (by kernel_rfl) (by kernel_rfl) (zd rfl rfl (zk rfl ⟨rfl, (zd rfl rfl (zg y8 rfl ⟨rfl, (zG rfl rfl ys rfl H.own0 (by exact H.lim0 (by omega)) rfl (yr rfl rfl sh62 rfl H.own0 (by exact H.lim0 (by omega)) rfl (zX rfl rfl (zx rfl fc93 rfl ?_))))⟩))⟩))
  obtain ⟨_, s9, hr, D2, so2, rfl, Hc, h2G⟩ := add_ok (x := (may.getD i default).p) hI (Fine.narrow (X := [b12]) H.fine (by intro p hp; rw [List.mem_singleton] at hp; subst hp; exact H.lt0)) (Sl.prot (X := [b12]) (hG.sl H (by intro p hp; (try simp only [List.mem_cons, List.mem_append, List.not_mem_nil, or_false] at hp ⊢); first | exact hp | simp only [hp, true_or, or_true]))) (by omega) (by have hmo := H.most; (try simp only at hmo); show _ + _ ≤ _; (try simp only); omega)
  refine ⟨_, _, hr, ?_⟩
  clear hr
  have H := H.callE (HL.wider H.fine (Nat.le_refl _) (fun _ h => List.mem_append_right _ h) Hc)
  clear Hc
  try simp only [List.cons_append, List.nil_append, List.append_assoc] at H
  obtain ⟨so2a, so2n, so2c⟩ := so2
  have hsn := h2G.slc
  rw [List.length_map] at hsn
  simp only at hsn
  subst hsn
  refine zX rfl rfl (zx rfl fc36 rfl ?_)
  obtain ⟨_, s9, hr, rfl, Hc⟩ := rest_ok (x := (may.getD i default)) hI H.fine (by have := H.most; omega)
  refine ⟨_, _, hr, ?_⟩
  clear hr
  have H := H.call0 (HL.wider H.fine (Nat.le_refl _) (fun _ h => h) Hc)
  clear Hc
  refine zX rfl rfl (zx rfl fc93 rfl ?_)
  obtain ⟨_, s9, hr, D3, so3, rfl, Hc, h3G⟩ := add_ok (x := (zJ (may.getD i default).w (may.getD i default).p)) hI H.fine (h2G.sl H (by intro p hp; (try simp only [List.mem_cons, List.mem_append, List.not_mem_nil, or_false] at hp ⊢); first | exact hp | simp only [hp, true_or, or_true])) (by omega) (by have hmo := H.most; (try simp only at hmo); show _ + _ ≤ _; (try simp only); omega)
  refine ⟨_, _, hr, ?_⟩
  clear hr
  have H := H.callE (HL.wider H.fine (Nat.le_refl _) (fun _ h => h) Hc)
  clear Hc
  try simp only [List.cons_append, List.nil_append, List.append_assoc] at H
  obtain ⟨so3a, so3n, so3c⟩ := so3
  have hsn := h3G.slc
  rw [List.length_map] at hsn
  simp only at hsn
  subst hsn
  refine zd rfl rfl (zO rfl ⟨rfl, (zR ?_)⟩)
  cases c
  ·refine zC (za rfl (zi rfl (za rfl (zi rfl (za rfl (zk rfl (za rfl (zZ qd rfl rfl rfl (za rfl (ze rfl (za rfl (yy rfl rfl (fun h => ?_) (fun h => ?_)))))))))))))
   ·refine za rfl (zv rfl rfl (za rfl (zt rfl (zb (zK (zj (zC (za rfl (ze rfl (za rfl (zW rfl rfl (by unfold zV; omega) (za rfl (zl rfl (zb (zI ?_)))))))))))))))
    try simp only at h
    refine ⟨may.length - (i + 1), by omega, _, i + 1, D3, ⟨so3a, (qB (qB out (may.getD i default).p) (zJ (may.getD i default).w (may.getD i default).p)).length, so3c⟩, (qB (qB out (may.getD i default).p) (zJ (may.getD i default).w (may.getD i default).p)), true, yb ⟨rfl, rfl, rfl, rfl, rfl, rfl, rfl, trivial⟩, (H.sub (L' := D3) (.cons _ ((List.sublist_append_right D2 D3).trans (List.sublist_append_right D1 _)))).up (by omega), h3G, addZ_inc (addZ_inc hinc), mem_addZ.mpr (.inl (mem_addZ.mpr (.inl hw))), ?_, by omega, ?_, ?_, by omega, rfl⟩
    ·intro x hx
     rcases mem_addZ.mp hx with hx | hx
     ·rcases mem_addZ.mp hx with hx | hx
      ·exact hrc x hx
      ·rw [hx]
       exact Rch.part (hrc _ (of_decide_eq_true hh)) hnd (zP (by omega)) rfl
     ·rw [hx]
      exact Rch.rest (hrc _ (of_decide_eq_true hh)) hnd (zP (by omega)) rfl
    ·intro _
     omega
    ·intro hc
     cases hc
   refine za rfl (zv rfl rfl (za rfl (zt rfl (zb (zK (zj (zC (za rfl (ze rfl (za rfl (zW rfl rfl (by unfold zV; omega) (za rfl (zl rfl (zb (zI ?_)))))))))))))))
   try simp only at h
   refine ⟨may.length - (i + 1), by omega, _, i + 1, D3, ⟨so3a, (qB (qB out (may.getD i default).p) (zJ (may.getD i default).w (may.getD i default).p)).length, so3c⟩, (qB (qB out (may.getD i default).p) (zJ (may.getD i default).w (may.getD i default).p)), false, yb ⟨rfl, rfl, rfl, rfl, rfl, rfl, rfl, trivial⟩, (H.sub (L' := D3) (.cons _ ((List.sublist_append_right D2 D3).trans (List.sublist_append_right D1 _)))).up (by omega), h3G, addZ_inc (addZ_inc hinc), mem_addZ.mpr (.inl (mem_addZ.mpr (.inl hw))), ?_, by omega, ?_, ?_, by omega, rfl⟩
   ·intro x hx
    rcases mem_addZ.mp hx with hx | hx
    ·rcases mem_addZ.mp hx with hx | hx
     ·exact hrc x hx
     ·rw [hx]
      exact Rch.part (hrc _ (of_decide_eq_true hh)) hnd (zP (by omega)) rfl
    ·rw [hx]
     exact Rch.rest (hrc _ (of_decide_eq_true hh)) hnd (zP (by omega)) rfl
   ·intro hc
    cases hc
   ·intro _
    obtain ⟨hp, hq⟩ := h2a.2.2 (by omega)
    have he : (qB (qB out (may.getD i default).p) (zJ (may.getD i default).w (may.getD i default).p)) = out := by rw [addZ_old hinc hp, addZ_old hinc hq]
    rw [he]
    exact clo_take (by omega) (hcf rfl) (fun _ _ => ⟨hp, hq⟩)
  refine zC (za rfl (zi rfl (za rfl (zi rfl (zc rfl (zc rfl (zc rfl (zc rfl (za rfl (zB rfl (za rfl (zt rfl (zb (zK (zj ?_)))))))))))))))
  refine zC (za rfl (ze rfl (za rfl (zW rfl rfl (by unfold zV; omega) (za rfl (zl rfl (zb (zI ?_))))))))
  try simp only at h
  refine ⟨may.length - (i + 1), by omega, _, i + 1, D3, ⟨so3a, (qB (qB out (may.getD i default).p) (zJ (may.getD i default).w (may.getD i default).p)).length, so3c⟩, (qB (qB out (may.getD i default).p) (zJ (may.getD i default).w (may.getD i default).p)), true, yb ⟨rfl, rfl, rfl, rfl, rfl, rfl, rfl, trivial⟩, (H.sub (L' := D3) (.cons _ ((List.sublist_append_right D2 D3).trans (List.sublist_append_right D1 _)))).up (by omega), h3G, addZ_inc (addZ_inc hinc), mem_addZ.mpr (.inl (mem_addZ.mpr (.inl hw))), ?_, by omega, ?_, ?_, by omega, rfl⟩
  ·intro x hx
   rcases mem_addZ.mp hx with hx | hx
   ·rcases mem_addZ.mp hx with hx | hx
    ·exact hrc x hx
    ·rw [hx]
     exact Rch.part (hrc _ (of_decide_eq_true hh)) hnd (zP (by omega)) rfl
   ·rw [hx]
    exact Rch.rest (hrc _ (of_decide_eq_true hh)) hnd (zP (by omega)) rfl
  ·intro _
   (have := hct rfl; omega)
  ·intro hc
   cases hc
 refine zb (zw rfl (yc (zQ (ya (zY (zK (zI (⟨2 * (65536 - out.length) + cond c 1 0, ?_, _, r + 1, D1, ⟨soa, out.length, soc⟩, out, c, yb ⟨rfl, rfl, rfl, rfl, rfl, rfl, trivial⟩, H.up (by omega), hG, hinc, hw, hrc, (fun hc => by have := hcf hc; rw [List.take_of_length_le (by omega)] at this; exact this), ?_, rfl⟩))))))))
 ·cases c
  ·simp only [cond_true, cond_false]; omega
  ·have := hct rfl; simp only [cond_true]; omega
 ·cases c
  ·simp only [cond_true, cond_false] at hrk ⊢; omega
  ·have := hct rfl; simp only [cond_true] at hrk ⊢; omega
end Go.Proofs.YtdejleegamcioaaGreat
