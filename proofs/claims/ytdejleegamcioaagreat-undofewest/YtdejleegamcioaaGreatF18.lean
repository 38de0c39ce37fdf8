/- The reference's cases: what they are made of. -/
/- Cells of lists of splits: reading and writing one. -/
/- A list of splits with one thing changed. -/
import Derived.Test.YtdejleegamcioaaGreatF17
namespace Go.Proofs.YtdejleegamcioaaGreat
open Go Go.M
theorem bf27 : buildF Tryz.prog 27 = some ([.int .i64 0, .slice none 0 0, .int .i64 0, .slice none 0 0], [(0, 1), (1, 1), (2, 1), (3, 1)]) := by kernel_rfl
theorem bf30 : buildF Tryz.prog 30 = some ([.int .i64 0, .int .i64 0], [(0, 1), (1, 1)]) := by kernel_rfl
theorem bf62 : buildF Tryz.prog 62 = some ([.int .i64 0, .int .i64 0, .bool false, .slice none 0 0, .bool false, .slice none 0 0, .bool false, .slice none 0 0, .bool false, .slice none 0 0], [(0, 1), (1, 1), (2, 8)]) := by kernel_rfl
theorem qL : elemF Tryz.prog 31 = some (true, 0, 1) := by kernel_rfl
theorem fb9 : yw Tryz.f9 (Tryz.f9.body.getD .skip) 1 = true := by kernel_rfl
theorem fc30 : yp Tryz.prog 30 = true := by kernel_rfl
theorem fc38 : yp Tryz.prog 38 = true := by kernel_rfl
theorem fc39 : yp Tryz.prog 39 = true := by kernel_rfl
theorem of27_0 : offF Tryz.prog 27 0 = some 0 := by kernel_rfl
theorem qH : offF Tryz.prog 27 1 = some 1 := by kernel_rfl
theorem of27_2 : offF Tryz.prog 27 2 = some 2 := by kernel_rfl
theorem of27_3 : offF Tryz.prog 27 3 = some 3 := by kernel_rfl
theorem sh24 : ys Tryz.prog 24 = some (none) := by kernel_rfl
theorem sh25 : ys Tryz.prog 25 = some (none) := by kernel_rfl
theorem sh27 : ys Tryz.prog 27 = some (some 4) := by kernel_rfl
theorem sl25 : xG Tryz.prog 25 = some (62, 10, 144, [.int .i64 0, .int .i64 0, .bool false, .slice none 0 0, .bool false, .slice none 0 0, .bool false, .slice none 0 0, .bool false, .slice none 0 0]) := by kernel_rfl
theorem sl31 : xG Tryz.prog 31 = some (23, 1, 8, [.int .i64 0]) := by kernel_rfl
theorem sz23 : xe Tryz.prog 23 = some 1 := by kernel_rfl
theorem sz24 : xe Tryz.prog 24 = some 1 := by kernel_rfl
theorem sz25 : xe Tryz.prog 25 = some 1 := by kernel_rfl
theorem sz27 : xe Tryz.prog 27 = some 4 := by kernel_rfl
theorem un31 : Tryz.prog.underlying 31 = some (.slice 23) := by kernel_rfl
theorem zf27 : zeroF Tryz.prog 27 = some [.int .i64 0, .slice none 0 0, .int .i64 0, .slice none 0 0] := by kernel_rfl
set_option maxHeartbeats 4000000 in
set_option maxRecDepth 10000 in
theorem made_ok {I : yb} (hI : Plain I) {s : St} (hf : Fine s) {v : Value} {l : List Int} (hl : SlI s v l) (hin : ∀ x ∈ l, zS x) (hroom : s.next + 30000000000000 ≤ zo) :
  ∃ v' s', yI Tryz.prog I 9 #[v] s v' s' ∧ (∃ (D DD : Hp') (sj sm : Slc) (js : List (Int × Int)) (may : List Sp) (n : Nat) (w bad : Int), v' = .agg ⟨[.int .i64 w, Slc.v sj, .int .i64 bad, Slc.v sm]⟩ ∧ HL [] s s' (D ++ DD) 30000000000000 ∧ SlG D 30 2 sj.v (js.map jc) ∧ SlG D 62 10 sm.v (may.map Sp.cells) ∧ (2 ≤ n ∧ n ≤ 6 ∧ w = 2 ^ n - 1) ∧ (1 ≤ js.length ∧ js.length ≤ 8) ∧ (∀ j ∈ js, (0 ≤ j.1 ∧ j.1 < (n : Nat)) ∧ (0 ≤ j.2 ∧ j.2 < (n : Nat)) ∧ j.1 ≠ j.2) ∧ (0 ≤ bad ∧ bad < 2 ^ js.length) ∧ may.length ≤ 14 ∧ (∀ x ∈ may, validB x.w x.p = true ∧ DirIn DD x)) := by
 have H := hf.hl
 obtain ⟨a, len, cap, rfl, hn⟩ := hl.isSlice
 subst hn
 have hN := atZ_range (l := l) (i := 0) (n := 5) (by decide)
 have hM := atZ_range (l := l) (i := 1) (n := 8) (by decide)
 have hNp := two_pow8 (n := (2 + atZ l 0 5).toNat) (by omega)
 have hMp := two_pow8 (n := (1 + atZ l 1 8).toNat) (by omega)
 refine yc 1 (hI 9 (by decide) (by decide)) Tryz.func9 rfl fb9 rfl ?_
 refine ze (za rfl (z6 H zf27 (by omega) (fun b2 s1 H => ?_)))
 refine zb (ze (za rfl (zm rfl (za rfl (zy rfl fc30 rfl ?_)))))
 obtain ⟨_, _, hr, rfl, rfl⟩ := at_ok (i := 0) (n := 5) hI (hl.kept H) hin (by decide)
 refine ⟨_, _, hr, ?_⟩
 clear hr
 refine za rfl (zZ rfl rfl (by unfold zS; omega) (za rfl (zk rfl (zb (ze (za rfl (zf rfl (za rfl (op_shl rfl rfl (by omega) (by omega) (by unfold zS; omega) (za rfl (xm rfl rfl (by show zS (1 * 2 ^ (2 + atZ l 0 5).toNat - 1); unfold zS; omega) (za rfl (yZ (c := [.int _ _, .slice _ _ _, .int _ _, .slice _ _ _]) bf27 rfl (za rfl (z6 H zf27 (by omega) (fun b4 s2 H => ?_))))))))))))))))
 refine za rfl (zX (vs := [.int _ _, .slice _ _ _, .int _ _, .slice _ _ _]) H sz27 rfl rfl rfl rfl rfl (by omega) (fun s3 H => ?_))
 refine zb (ze (za rfl (zm rfl (za rfl (zy rfl fc30 rfl ?_)))))
 obtain ⟨_, _, hr, rfl, rfl⟩ := at_ok (i := 1) (n := 8) hI (hl.kept H) hin (by decide)
 refine ⟨_, _, hr, ?_⟩
 clear hr
 refine za rfl (zZ rfl rfl (by unfold zS; omega) (za rfl (zk rfl (zb (zx (ze (za rfl (zh (zb (zL (yB (fun k F s1 => ∃ (G : FF) (i : Nat) (D1 : Hp') (sj : Slc) (js : List (Int × Int)), F = lay G [(0, .slice a l.length cap), (2, .pointer (some ⟨b2, 0, none⟩)), (3, .int .i64 (2 + atZ l 0 5)), (4, .pointer (some ⟨b4, 0, none⟩)), (5, .int .i64 (1 + atZ l 1 8)), (6, .int .i64 (i : Int))] ∧ HL [] s s1 ([(b4, .cells [.int .i64 (1 * 2 ^ (2 + atZ l 0 5).toNat - 1), sj.v, .int .i64 0, .slice none 0 0] 27), (b2, .cells [.int .i64 0, .slice none 0 0, .int .i64 0, .slice none 0 0] 27)] ++ D1) (2 + 2 * i) ∧ Own 30 2 D1 sj.v (js.map jc).flatten js.length ∧ js.length = i ∧ (i : Int) ≤ (1 + atZ l 1 8) ∧ (∀ j ∈ js, (0 ≤ j.1 ∧ j.1 < (2 + atZ l 0 5)) ∧ (0 ≤ j.2 ∧ j.2 < (2 + atZ l 0 5)) ∧ j.1 ≠ j.2) ∧ k = ((1 + atZ l 1 8) - i).toNat) ?_ (1 + atZ l 1 8).toNat _ _ ?_)))))))))))
 rotate_left
 ·exact ⟨_, 0, [], ⟨none, 0, 0⟩, [], yf ⟨rfl, rfl, rfl, rfl, rfl, rfl, trivial⟩, H, .nil, rfl, by omega, (by intro j hj; cases hj), by omega⟩
 rintro k F s1 ⟨G, i, D1, sj, js, rfl, H, ho, hji, him, hjr, rfl⟩
 refine zx (ze (za rfl (zf rfl (za rfl (zf rfl (za rfl (yg rfl rfl (fun h => ?_) (fun h => ?_))))))))
 ·refine zb (zq rfl (zD (zj (zx (zL (ze (za rfl (zm rfl (za rfl (zf rfl (za rfl (op_mul rfl rfl (by unfold zS; omega) (za rfl (zZ rfl rfl (by unfold zS; omega) (za rfl (zf rfl ?_))))))))))))))))
  refine za rfl (zy rfl fc30 rfl ?_)
  obtain ⟨_, _, hr, rfl, rfl⟩ := at_ok (i := 2 + 2 * (i : Int)) (n := (2 + atZ l 0 5)) hI (hl.kept H) hin (by omega)
  refine ⟨_, _, hr, ?_⟩
  clear hr
  have hA := atZ_range (l := l) (i := 2 + 2 * (i : Int)) (n := (2 + atZ l 0 5)) (by omega)
  refine za rfl (zk rfl (zb (ze (za rfl (zm rfl (za rfl (zf rfl (za rfl (op_mul rfl rfl (by unfold zS; omega) (za rfl (zZ rfl rfl (by unfold zS; omega) (za rfl (zf rfl (za rfl (xm rfl rfl (by unfold zS; omega) (za rfl (zy rfl fc30 rfl ?_)))))))))))))))))
  obtain ⟨_, _, hr, rfl, rfl⟩ := at_ok (i := 3 + 2 * (i : Int)) (n := (2 + atZ l 0 5) - 1) hI (hl.kept H) hin (by omega)
  refine ⟨_, _, hr, ?_⟩
  clear hr
  have hB := atZ_range (l := l) (i := 3 + 2 * (i : Int)) (n := (2 + atZ l 0 5) - 1) (by omega)
  refine za rfl (zk rfl (zb (zx (ze (za rfl (zf rfl (za rfl (zf rfl (za rfl (op_geq rfl rfl (fun h => ?_) (fun h => ?_)))))))))))
  ·refine zb (zq rfl (zF (za rfl (zf rfl (za rfl (zZ rfl rfl (by unfold zS; omega) (za rfl (zk rfl (zb (zj (zF (za rfl (zg qH rfl (za rfl (zl sh24 rfl H.own0 rfl (za rfl (zf rfl ?_)))))))))))))))))
   refine za rfl (zf rfl (za rfl (yZ (c := [.int _ _, .int _ _]) bf30 rfl (za rfl (yd (c := [.int _ _, .int _ _]) H sl24 rfl rfl (by omega) (fun b52 s4 H => ?_))))))
   have hgt := H.own0
   have H := HL.swap (A := [_, _]) (B := D1) H.drop0
   refine za rfl (xn H ho sl24 un24 rfl rfl rfl (xa hgt rfl) (by decide) rfl rfl (by omega) (by omega) (fun b53 s53 H ho => ?_))
   refine za rfl (zg qH rfl (za rfl (qp (vs := [.slice _ _ _]) H sz24 rfl rfl rfl rfl rfl (by omega) (fun s5 H => ?_))))
   refine zb (zP (zj (zF (za rfl (zf rfl (za rfl (zZ rfl rfl (by unfold zS; omega) (za rfl (zk rfl (zb (zO (⟨((1 + atZ l 1 8) - (i + 1 : Nat)).toNat, by omega, _, i + 1, [(b53, .cells ((js.map jc).flatten ++ jc ((atZ l (2 + 2 * (i : Int)) (2 + atZ l 0 5)), ((atZ l (3 + 2 * (i : Int)) ((2 + atZ l 0 5) - 1)) + 1))) 30)], ⟨some ⟨b53, 0, none⟩, js.length + 1, 2 * (js.length + 1) + 1⟩, js ++ [((atZ l (2 + 2 * (i : Int)) (2 + atZ l 0 5)), ((atZ l (3 + 2 * (i : Int)) ((2 + atZ l 0 5) - 1)) + 1))], yf ⟨rfl, rfl, rfl, rfl, rfl, rfl, trivial⟩, ?_, ?_, by simp; omega, by omega, ?_, rfl⟩))))))))))))
   ·refine HL.up (n := 2 + 2 * i + 1 + 1) ?_ (by omega)
    exact HL.swap (A := [_]) (B := [_, _]) H
   ·rw [flat_snoc, List.length_append]
    exact ho
   ·intro j hj
    rcases List.mem_append.mp hj with hj | hj
    ·exact hjr j hj
    ·rw [List.mem_singleton] at hj
     subst hj
     exact ⟨⟨hA.1, hA.2⟩, ⟨by omega, by omega⟩, by omega⟩
  refine zb (zv rfl (zD (zj (zF (za rfl (zg qH rfl (za rfl (zl sh24 rfl H.own0 rfl (za rfl (zf rfl (za rfl (zf rfl (za rfl (yZ (c := [.int _ _, .int _ _]) bf30 rfl (za rfl (yd (c := [.int _ _, .int _ _]) H sl24 rfl rfl (by omega) (fun b52 s6 H => ?_)))))))))))))))))
  have hgt := H.own0
  have H := HL.swap (A := [_, _]) (B := D1) H.drop0
  refine za rfl (xn H ho sl24 un24 rfl rfl rfl (xa hgt rfl) (by decide) rfl rfl (by omega) (by omega) (fun b53 s53 H ho => ?_))
  refine za rfl (zg qH rfl (za rfl (qp (vs := [.slice _ _ _]) H sz24 rfl rfl rfl rfl rfl (by omega) (fun s7 H => ?_))))
  refine zb (zP (zj (zF (za rfl (zf rfl (za rfl (zZ rfl rfl (by unfold zS; omega) (za rfl (zk rfl (zb (zO (⟨((1 + atZ l 1 8) - (i + 1 : Nat)).toNat, by omega, _, i + 1, [(b53, .cells ((js.map jc).flatten ++ jc ((atZ l (2 + 2 * (i : Int)) (2 + atZ l 0 5)), (atZ l (3 + 2 * (i : Int)) ((2 + atZ l 0 5) - 1)))) 30)], ⟨some ⟨b53, 0, none⟩, js.length + 1, 2 * (js.length + 1) + 1⟩, js ++ [((atZ l (2 + 2 * (i : Int)) (2 + atZ l 0 5)), (atZ l (3 + 2 * (i : Int)) ((2 + atZ l 0 5) - 1)))], yf ⟨rfl, rfl, rfl, rfl, rfl, rfl, trivial⟩, ?_, ?_, by simp; omega, by omega, ?_, rfl⟩))))))))))))
  ·refine HL.up (n := 2 + 2 * i + 1 + 1) ?_ (by omega)
   exact HL.swap (A := [_]) (B := [_, _]) H
  ·rw [flat_snoc, List.length_append]
   exact ho
  ·intro j hj
   rcases List.mem_append.mp hj with hj | hj
   ·exact hjr j hj
   ·rw [List.mem_singleton] at hj
    subst hj
    exact ⟨⟨hA.1, hA.2⟩, ⟨by omega, by omega⟩, by omega⟩
 refine zb (zv rfl (yi (zU (ye (z8 (zj (ze (za rfl (zm rfl (za rfl (zf rfl (za rfl (op_shl rfl rfl (by omega) (by omega) (by unfold zS; omega) (za rfl (zy rfl fc30 rfl ?_)))))))))))))))
 obtain ⟨_, _, hr, rfl, rfl⟩ := at_ok (i := 18) (n := 1 * 2 ^ (1 + atZ l 1 8).toNat) hI (hl.kept H) hin (by omega)
 refine ⟨_, _, hr, ?_⟩
 clear hr
 refine za rfl (zg of27_2 rfl (za rfl (zX (vs := [.int _ _]) H sz23 rfl rfl rfl rfl rfl (by omega) (fun s8 H => ?_))))
 refine zb (ze (za rfl (zg of27_0 rfl (za rfl (zl yx rfl H.own0 rfl (za rfl (yd (c := [.int _ _]) H sl31 rfl rfl (by omega) (fun b62 s9 H => ?_))))))))
 refine za rfl (zT rfl (zb (zx (ze (za rfl (zh (zb (zL (yB (fun k F s1 => ∃ (G : FF) (q : Nat) (D2 D3 DD : Hp') (sm : Slc) (sa : Option Addr) (sc : Nat) (ss : List Int) (may : List Sp), F = lay G [(0, .slice a l.length cap), (2, .pointer (some ⟨b2, 0, none⟩)), (3, .int .i64 (2 + atZ l 0 5)), (4, .pointer (some ⟨b4, 0, none⟩)), (9, .slice sa ss.length sc), (10, .int .i64 (q : Int))] ∧ HL [] s s1 ([(b4, .cells [.int .i64 (1 * 2 ^ (2 + atZ l 0 5).toNat - 1), sj.v, .int .i64 (atZ l 18 (1 * 2 ^ (1 + atZ l 1 8).toNat)), sm.v] 27), (b2, .cells [.int .i64 0, .slice none 0 0, .int .i64 0, .slice none 0 0] 27)] ++ (D3 ++ (D2 ++ (D1 ++ DD)))) (30 + 2000000000100 * q) ∧ Own 23 1 D3 (.slice sa ss.length sc) (yo ss) ss.length ∧ Own 62 10 D2 sm.v (may.map Sp.cells).flatten may.length ∧ 1 ≤ ss.length ∧ ss.length ≤ 1 + 2 * q ∧ may.length ≤ q ∧ q ≤ 14 ∧ (∀ x ∈ may, validB x.w x.p = true ∧ DirIn DD x) ∧ k = 14 - q) ?_ 14 _ _ ?_)))))))))
 rotate_left
 ·refine ⟨_, 0, [], [(b62, .cells [.int .i64 (1 * 2 ^ (2 + atZ l 0 5).toNat - 1)] 23)], [], ⟨none, 0, 0⟩, some ⟨b62, 0, none⟩, 2, [(1 * 2 ^ (2 + atZ l 0 5).toNat - 1)], [], yf ⟨rfl, rfl, rfl, rfl, rfl, rfl, trivial⟩, ?_, ?_, .nil, by simp, by simp, by simp, by omega, (by intro x hx; cases hx), rfl⟩
  ·have H := (HL.mid (A := [_]) (B := [_, _]) (C := D1) H)
   rw [List.nil_append, List.append_nil]
   exact H.up (by omega)
  ·exact .block b62 2 _ 1 rfl (by decide)
 rintro k F s1 ⟨G, q, D2, D3, DD, sm, sa, sc, ss, may, rfl, H, hos, hom, hs1, hs2, hm1, hq, hmay, rfl⟩
 refine zx (ze (za rfl (zf rfl (za rfl (yg rfl rfl (fun h => ?_) (fun h => ?_))))))
 ·refine zb (zq rfl (zD (zj (zx (zL (ze (za rfl (zm rfl (za rfl (zm rfl (za rfl (zf rfl (za rfl (op_mul rfl rfl (by unfold zS; omega) (za rfl (zZ rfl rfl (by unfold zS; omega) ?_))))))))))))))))
  refine za rfl (zm rfl (za rfl (z7 un31 rfl rfl rfl (za rfl (zy rfl fc30 rfl ?_)))))
  obtain ⟨_, _, hr, rfl, rfl⟩ := at_ok (i := 20 + 2 * (q : Int)) (n := (ss.length : Int)) hI (hl.kept H) hin (by omega)
  refine ⟨_, _, hr, ?_⟩
  clear hr
  have hC := atZ_range (l := l) (i := 20 + 2 * (q : Int)) (n := (ss.length : Int)) (by omega)
  obtain ⟨bs, ofs, cs, rfl, hgs, hbs, hcs⟩ := (((Own.slG (es := ss.map dc) (by intro x hx; obtain ⟨y, _, rfl⟩ := List.mem_map.mp hx; rfl) (by rw [← ints_flat, List.length_map]; exact hos)).sl H (by intro p hp; simp only [List.mem_append, hp, true_or, or_true])).atD (i := atZ l (20 + 2 * (q : Int)) (ss.length : Int)) (k := (atZ l (20 + 2 * (q : Int)) (ss.length : Int)).toNat) (by omega) (by omega))
  refine za rfl (zB qL rfl rfl (by omega) (by omega) (za rfl (zl yx rfl hgs hcs (za rfl (zk rfl (zb (ze (za rfl (zf rfl (za rfl (zm rfl (za rfl (zf rfl (za rfl (op_mul rfl rfl (by unfold zS; omega) (za rfl (zZ rfl rfl (by unfold zS; omega) (za rfl (zf rfl (za rfl (op_shl rfl rfl (by omega) (by omega) (by unfold zS; omega) ?_)))))))))))))))))))))
  refine za rfl (zy rfl fc30 rfl ?_)
  obtain ⟨_, _, hr, rfl, rfl⟩ := at_ok (i := 21 + 2 * (q : Int)) (n := 1 * 2 ^ (2 + atZ l 0 5).toNat) hI (hl.kept H) hin (by omega)
  refine ⟨_, _, hr, ?_⟩
  clear hr
  refine za rfl (op_and rfl rfl (za rfl (zk rfl (zb (ze (za rfl (zf rfl (za rfl (zf rfl (za rfl (zf rfl (za rfl (op_rem rfl rfl (by omega) (za rfl (zy rfl fc38 rfl ?_)))))))))))))))
  obtain ⟨_, s9, hr, Dn, n1, s1, s2, n3, s3, s4, l1, l2, l3, l4, rfl, Hc, hd1, hd2, hd3, hd4⟩ := of05_ok (x := (q : Int).tmod 3) (y := 1) hI H.fine (by rw [Int.tmod_eq_emod_of_nonneg (by omega)]; exact ⟨by omega, by omega⟩) ⟨by decide, by decide⟩ (by have := H.most; omega)
  refine ⟨_, _, hr, ?_⟩
  clear hr
  have H := H.callE Hc
  clear Hc
  try simp only [List.cons_append, List.nil_append, List.append_assoc] at H
  obtain ⟨N1, hN1⟩ : ∃ N1, N1 = 30 + 2000000000100 * q + 2000000000000 := ⟨_, rfl⟩
  rw [← hN1] at H
  refine za rfl (yZ (c := [.int _ _, .int _ _, .bool _, .slice _ _ _, .bool _, .slice _ _ _, .bool _, .slice _ _ _, .bool _, .slice _ _ _]) bf62 rfl (za rfl (z6 H zf62 (by omega) (fun b13 s10 H => ?_))))
  refine za rfl (zX (vs := [.int _ _, .int _ _, .bool _, .slice _ _ _, .bool _, .slice _ _ _, .bool _, .slice _ _ _, .bool _, .slice _ _ _]) H sz62 rfl rfl rfl rfl rfl (by omega) (fun s11 H => ?_))
  refine zb (ze (za rfl (ya sh62 rfl H.own0 rfl (za rfl (zy rfl fc39 rfl ?_)))))
  obtain ⟨_, s9, hr, rfl, Hc⟩ := valid_ok (x := (⟨(ss.getD (atZ l (20 + 2 * (q : Int)) (ss.length : Int)).toNat 0), (andI (ss.getD (atZ l (20 + 2 * (q : Int)) (ss.length : Int)).toNat 0) (atZ l (21 + 2 * (q : Int)) (1 * 2 ^ (2 + atZ l 0 5).toNat))), n1, s1, false, s2, n3, s3, false, s4⟩ : Sp)) hI H.fine (by have := H.most; omega)
  refine ⟨_, _, hr, ?_⟩
  clear hr
  have H := H.call0 Hc
  clear Hc
  cases hv : validB (ss.getD (atZ l (20 + 2 * (q : Int)) (ss.length : Int)).toNat 0) (andI (ss.getD (atZ l (20 + 2 * (q : Int)) (ss.length : Int)).toNat 0) (atZ l (21 + 2 * (q : Int)) (1 * 2 ^ (2 + atZ l 0 5).toNat)))
  ·refine zb (zv rfl (zD (zP (zj (zF (za rfl (zf rfl (za rfl (zZ rfl rfl (by unfold zS; omega) (za rfl (zk rfl (zb (zO (⟨14 - (q + 1), by omega, _, q + 1, D2, D3, DD ++ Dn, sm, _, sc, ss, may, yf ⟨rfl, rfl, rfl, rfl, rfl, rfl, trivial⟩, H.drop0.up (by omega), hos, hom, hs1, by omega, by omega, by omega, ?_, rfl⟩))))))))))))))
   exact fun x hx => ⟨(hmay x hx).1, (hmay x hx).2.mono (List.subset_append_left _ _)⟩
  refine zb (zq rfl (ze (za rfl (zg of27_3 rfl (za rfl (zl sh25 rfl H.own1 rfl (za rfl (ya sh62 rfl H.own0 rfl (za rfl (yd (c := [.int _ _, .int _ _, .bool _, .slice _ _ _, .bool _, .slice _ _ _, .bool _, .slice _ _ _, .bool _, .slice _ _ _]) H sl25 rfl rfl (by omega) (fun b97 s12 H => ?_)))))))))))
  have hgt := H.own0
  have H := (HL.mid2 (A := [_, _, _]) (B := D3) (C := D2) (E := D1 ++ (DD ++ Dn)) H.drop0)
  refine za rfl (xn H hom sl25 qF rfl rfl rfl (xa hgt rfl) (by decide) rfl rfl (by omega) (by omega) (fun b98 s98 H hom => ?_))
  refine za rfl (zg of27_3 rfl (za rfl (qP (vs := [.slice _ _ _]) H sz25 rfl rfl rfl rfl rfl (by omega) (fun s13 H => ?_))))
  refine zb (zF (za rfl (zm rfl (za rfl (zf rfl (za rfl (zf rfl (za rfl (zf rfl (za rfl (x7 rfl rfl (za rfl (yd (c := [.int _ _, .int _ _]) H sl31 rfl rfl (by omega) (fun b105 s14 H => ?_))))))))))))))
  have hgt := H.own0
  have H := (HL.mid (A := [_, _, _, _]) (B := D3) (C := D1 ++ (DD ++ Dn)) H.drop0)
  refine za rfl (xn H hos sl31 un31 rfl rfl rfl (xa hgt rfl) (by decide) rfl rfl (by omega) (by omega) (fun b106 s106 H hos => ?_))
  refine za rfl (zT rfl (zb (zP (zj (zF (za rfl (zf rfl (za rfl (zZ rfl rfl (by unfold zS; omega) (za rfl (zk rfl (zb (zO (⟨14 - (q + 1), by omega, _, q + 1, [(b98, .cells ((may.map Sp.cells).flatten ++ Sp.cells (⟨(ss.getD (atZ l (20 + 2 * (q : Int)) (ss.length : Int)).toNat 0), (andI (ss.getD (atZ l (20 + 2 * (q : Int)) (ss.length : Int)).toNat 0) (atZ l (21 + 2 * (q : Int)) (1 * 2 ^ (2 + atZ l 0 5).toNat))), n1, s1, false, s2, n3, s3, false, s4⟩ : Sp)) 62)], [(b106, .cells (yo ss ++ [.int .i64 (andI (ss.getD (atZ l (20 + 2 * (q : Int)) (ss.length : Int)).toNat 0) (atZ l (21 + 2 * (q : Int)) (1 * 2 ^ (2 + atZ l 0 5).toNat))), .int .i64 (zI (ss.getD (atZ l (20 + 2 * (q : Int)) (ss.length : Int)).toNat 0) (andI (ss.getD (atZ l (20 + 2 * (q : Int)) (ss.length : Int)).toNat 0) (atZ l (21 + 2 * (q : Int)) (1 * 2 ^ (2 + atZ l 0 5).toNat))))]) 23)], DD ++ Dn, ⟨some ⟨b98, 0, none⟩, may.length + 1, 2 * (may.length + 1) + 1⟩, some ⟨b106, 0, none⟩, 2 * (ss.length + 2) + 1, ss ++ [(andI (ss.getD (atZ l (20 + 2 * (q : Int)) (ss.length : Int)).toNat 0) (atZ l (21 + 2 * (q : Int)) (1 * 2 ^ (2 + atZ l 0 5).toNat))), zI (ss.getD (atZ l (20 + 2 * (q : Int)) (ss.length : Int)).toNat 0) (andI (ss.getD (atZ l (20 + 2 * (q : Int)) (ss.length : Int)).toNat 0) (atZ l (21 + 2 * (q : Int)) (1 * 2 ^ (2 + atZ l 0 5).toNat)))], may ++ [(⟨(ss.getD (atZ l (20 + 2 * (q : Int)) (ss.length : Int)).toNat 0), (andI (ss.getD (atZ l (20 + 2 * (q : Int)) (ss.length : Int)).toNat 0) (atZ l (21 + 2 * (q : Int)) (1 * 2 ^ (2 + atZ l 0 5).toNat))), n1, s1, false, s2, n3, s3, false, s4⟩ : Sp)], yf ⟨rfl, rfl, rfl, rfl, by rw [List.length_append]; rfl, rfl, trivial⟩, ?_, ?_, ?_, by simp, by simp; omega, by simp; omega, by omega, ?_, rfl⟩))))))))))))))
  ·exact ((HL.mid (A := [_, _]) (B := [_, _]) (C := D1 ++ (DD ++ Dn)) H.drop2)).up (by omega)
  ·rw [ints_append, List.length_append]
   exact hos
  ·rw [flat_snoc, List.length_append]
   exact hom
  ·intro x hx
   rcases List.mem_append.mp hx with hx | hx
   ·exact ⟨(hmay x hx).1, (hmay x hx).2.mono (List.subset_append_left _ _)⟩
   ·rw [List.mem_singleton] at hx
    subst hx
    exact ⟨hv, rfl, rfl, l1, l2, l3, l4, hd1.mono (List.subset_append_right _ _), hd2.mono (List.subset_append_right _ _), hd3.mono (List.subset_append_right _ _), hd4.mono (List.subset_append_right _ _)⟩
 refine zb (zv rfl (yi (zU (ye (z8 (zj (ze (za rfl (ya sh27 rfl H.own0 rfl (za rfl (qp (vs := [.int _ _, .slice _ _ _, .int _ _, .slice _ _ _]) H sz27 rfl rfl rfl rfl rfl (by omega) (fun s15 H => ?_))))))))))))
 refine zb (zu (zp (yU sh27 rfl H.own1 rfl ?_)))
 have hbad := atZ_range (l := l) (i := 18) (n := 1 * 2 ^ (1 + atZ l 1 8).toNat) (by omega)
 have hjl : js.length = (1 + atZ l 1 8).toNat := by omega
 refine ⟨D3 ++ (D2 ++ D1), DD, sj, sm, js, may, (2 + atZ l 0 5).toNat, _, _, rfl, ?_, ?_, ?_, ⟨by omega, by omega, by omega⟩, ⟨by omega, by omega⟩, ?_, ⟨hbad.1, ?_⟩, by omega, hmay⟩
 ·rw [List.append_assoc, List.append_assoc]
  exact H.drop0.drop0.up (by omega)
 ·exact (Own.slG (es := js.map jc) (by intro x hx; obtain ⟨y, _, rfl⟩ := List.mem_map.mp hx; rfl) (by rw [List.length_map]; exact ho)).mono (by intro p hp; simp only [List.mem_append, hp, or_true])
 ·exact (Own.slG (es := may.map Sp.cells) (by intro x hx; obtain ⟨y, _, rfl⟩ := List.mem_map.mp hx; rfl) (by rw [List.length_map]; exact hom)).mono (by intro p hp; simp only [List.mem_append, hp, or_true, true_or])
 ·intro j hj
  have := hjr j hj
  omega
 ·rw [hjl]
  omega
end Go.Proofs.YtdejleegamcioaaGreat
namespace Go.Proofs.YtdejleegamcioaaGreat
open Go Go.M
theorem lput_app {α : Type} : ∀ (A : List α) (j : Nat) (vs R r : List α), xI j vs R = some r → xI (A.length + j) vs (A ++ R) = some (A ++ r)
 | [], j, vs, R, r, h => by simpa using h
 | a :: A, j, vs, R, r, h => by
  have := lput_app A j vs R r h
  have e : (a :: A).length + j = (A.length + j) + 1 := by simp; omega
  rw [e]
  simp only [List.cons_append, xI, this]
abbrev xX (l : List Sp) : List Value := (l.map Sp.cells).flatten
theorem sps_len (l : List Sp) : (xX l).length = l.length * 10 := by
 have := flat_len (sz := 10) (es := l.map Sp.cells) (by intro x hx; obtain ⟨y, _, rfl⟩ := List.mem_map.mp hx; rfl)
 simpa using this
theorem sps_plain (l : List Sp) : (xX l).all Go.M.plainCell = true := by
 rw [List.all_eq_true]
 intro x hx
 obtain ⟨c, hc, hx⟩ := List.mem_flatten.mp hx
 obtain ⟨y, _, rfl⟩ := List.mem_map.mp hc
 simp only [Sp.cells, List.mem_cons, List.not_mem_nil, or_false] at hx
 rcases hx with rfl | rfl | rfl | rfl | rfl | rfl | rfl | rfl | rfl | rfl <;> rfl
theorem sps_get {l : List Sp} {k m : Nat} (hk : k < l.length) (hm : m = k * 10) : xA 10 (xY m (xX l)) = some (l.getD k default).cells := by
 have := flat_get (sz := 10) (es := l.map Sp.cells) (k := k) (by intro x hx; obtain ⟨y, _, rfl⟩ := List.mem_map.mp hx; rfl) (by simpa using hk)
 rw [Nat.zero_add] at this
 rw [hm, this, getD_map hk]
theorem sps_split {l : List Sp} {k : Nat} (hk : k < l.length) : xX l = xX (l.take k) ++ ((l.getD k default).cells ++ xX (l.drop (k + 1))) := by
 have e : l = l.take k ++ (l.getD k default :: l.drop (k + 1)) := by rw [← yF default hk, List.take_append_drop]
 conv => lhs; rw [e]
 simp [xX]
theorem sps_set {l : List Sp} {k : Nat} {y : Sp} (hk : k < l.length) : xX (l.set k y) = xX (l.take k) ++ (y.cells ++ xX (l.drop (k + 1))) := by
 rw [List.set_eq_take_append_cons_drop, if_pos hk]
 simp [xX]
theorem sps_put {l : List Sp} {k j m : Nat} {y : Sp} {vs : List Value} (hk : k < l.length) (hm : m = k * 10 + j) (h : ∀ B, xI j vs ((l.getD k default).cells ++ B) = some (y.cells ++ B)) : xI m vs (xX l) = some (xX (l.set k y)) := by
 have hl : (xX (l.take k)).length = k * 10 := by rw [sps_len, List.length_take]; rw [Nat.min_eq_left (by omega)]
 rw [hm, sps_split hk, sps_set hk, ← hl]
 exact lput_app _ _ _ _ _ (h _)
theorem elems_take {c : List Value} {off sz : Nat} {es : List (List Value)} (hs : 0 < sz) (hz : ∀ x ∈ es, x.length = sz) (hc : ∀ k, k < es.length → xA sz (xY (off + k * sz) c) = some (es.getD k [])) : ∀ n, n ≤ es.length → (c.drop off).take (n * sz) = (es.take n).flatten ∧ (n = 0 ∨ off + n * sz ≤ c.length)
 | 0, _ => by simp
 | n + 1, h => by
  obtain ⟨ih, _⟩ := elems_take hs hz hc n (by omega)
  have h1 := hc n (by omega)
  rw [qj, qA] at h1
  split at h1
  ·next hle =>
   rw [Option.some.injEq] at h1
   rw [List.length_drop] at hle
   have hx : (es.getD n []).length = sz := hz _ (zR (by omega))
   refine ⟨?_, ?_⟩
   ·rw [Nat.add_mul, Nat.one_mul, List.take_add, ih, List.drop_drop, h1, List.take_succ_eq_append_getElem (by omega), List.flatten_append]
    simp [List.getD_eq_getElem?_getD, List.getElem?_eq_getElem (show n < es.length by omega)]
   ·right
    rw [Nat.add_mul, Nat.one_mul]
    omega
  ·cases h1
theorem Sl.elems {s : St} {e : TypeId} {sz : Nat} {v : Value} {es : List (List Value)} (h : Sl s e sz v es) (hz : ∀ x ∈ es, x.length = sz) (hs : 0 < sz) : Elems s sz v es.length es.flatten := by
 cases h with
 | nil c hv hl => subst hl; subst hv; exact elems_nil
 | block b off cap c hv hg hb hcap hc =>
  subst hv
  by_cases hn : es.length = 0
  ·have : es = [] := List.length_eq_zero_iff.mp hn
   subst this
   refine ⟨⟨_, _, rfl⟩, ?_⟩
   simp only [xW, hg, List.length_nil, Nat.zero_mul, xA, List.flatten_nil]
  ·obtain ⟨h1, h2⟩ := elems_take hs hz hc es.length (Nat.le_refl _)
   rw [List.take_length] at h1
   exact elems_block hg h1 (by omega)
theorem Sl.elemsS {s : St} {v : Value} {l : List Sp} (h : Sl s 62 10 v (l.map Sp.cells)) : Elems s 10 v l.length (xX l) := by
 have := Sl.elems h (by intro x hx; obtain ⟨y, _, rfl⟩ := List.mem_map.mp hx; rfl) (by decide)
 rwa [List.length_map] at this
theorem spsG {b cap : Nat} {l : List Sp} (hcap : l.length ≤ cap / 2) : SlG [(b, .cells (xX l) 62)] 62 10 (.slice (some ⟨b, 0, none⟩) l.length cap) (l.map Sp.cells) := by
 refine SlG.block b 0 cap (xX l) (by simp) (by simp) (by simpa using hcap) fun k hk => ?_
 exact flat_get (by intro x hx; obtain ⟨y, _, rfl⟩ := List.mem_map.mp hx; rfl) hk
end Go.Proofs.YtdejleegamcioaaGreat
namespace Go.M
section
variable {P : Program} {I : yb} {F : FF} {s : St} {Q : FF → St → Prop} {d : Option Tmp} {ty : TypeId} {pos : String} {af : Array Edge} {g : Option (Nat × Bool)} {W : List Nat} {s0 : St} {L : Hp'} {n : Nat}
theorem op_append00 {ag : Array Operand} {ts : Array TypeId} {t t2 e e2 : TypeId} {tr : List TypeId} {x y : Operand} {sz by_ m b : Nat} {z l : List Value} (H : HL W s0 s ((b, .cells [] e) :: L) n) (hs : xG P t = some (e, sz, by_, z)) (hu2 : P.underlying t2 = some (.slice e2))
  (ht : ts.toList = t :: t2 :: tr) (ha : ag.toList = [x, y]) (hx : zH F x = .slice (some ⟨b, 0, none⟩) 0 0) (he : Elems s sz (zH F y) m l) (hm : 0 < m) (hp : l.all plainCell = true) (hl : l.length = m * sz) (hb : m * (by_ + 1) ≤ 1073741824) (hr : s0.next + n < zo)
  (k : ∀ b' s', HL W s0 s' ((b', .cells l e) :: L) (n + 1) → Q (upd F d (.slice (some ⟨b', 0, none⟩) m (2 * m + 1))) s') : OpW P I ⟨d, .call ⟨.builtin .append, ag, ts⟩, ty, pos, af, g⟩ F s Q := by
 refine op_append0 H hs hu2 ht ha hx he (by simp) (by omega) hp hl (by rw [Nat.zero_add]; exact hb) hr fun b' s' H' => ?_
 have := k b' s' H'
 rwa [Nat.zero_add]
end
end Go.M
namespace Go.Proofs.YtdejleegamcioaaGreat
open Go Go.M
theorem fb11 : yw Tryz.f11 (Tryz.f11.body.getD .skip) 4 = true := by kernel_rfl
theorem of62_2 : offF Tryz.prog 62 2 = some 2 := by kernel_rfl
theorem no3 {how : Int} (e : how = 3) (h : xq how 6 ≠ 3) : False := h (by rw [e]; decide)
set_option maxHeartbeats 4000000 in
set_option maxRecDepth 10000 in
theorem bent_ok {I : yb} (hI : Plain I) {s : St} (hf : Fine s) {v : Value} {l : List Sp} {how at_ by_ : Int} (hl : Sl s 62 10 v (l.map Sp.cells)) (hlen : l.length ≤ 100) (hin : ∀ x ∈ l, zS x.w ∧ zS x.p) (h1 : zS how) (h2 : zS at_) (h3 : zS by_) (hroom : s.next + 2000000001000 ≤ zo) :
  ∃ v' s', yI Tryz.prog I 11 #[v, .int .i64 how, .int .i64 at_, .int .i64 by_] s v' s' ∧ (∃ (D DD : Hp') (l2 : List Sp), HL [] s s' (D ++ DD) 2000000001000 ∧ SlG D 62 10 v' (l2.map Sp.cells) ∧ l2.length ≤ l.length + 1 ∧ (how = 3 → 0 < l.length → l2.length + 1 = l.length) ∧ ∀ x ∈ l2, (zS x.w ∧ zS x.p) ∧ (DirIn DD x ∨ ∃ y ∈ l, x.s1 = y.s1 ∧ x.s2 = y.s2 ∧ x.s3 = y.s3 ∧ x.s4 = y.s4 ∧ x.n2 = y.n2 ∧ x.n4 = y.n4)) := by
 have H := hf.hl
 obtain ⟨a, len, cap, rfl, hn⟩ := hl.isSlice
 rw [List.length_map] at hn
 subst hn
 refine yc 4 (hI 11 (by decide) (by decide)) Tryz.func11 rfl fb11 rfl ?_
 refine ze (za rfl (zh (zb ?_)))
 by_cases hl0 : l.length = 0
 ·refine ze (za rfl (yd (c := []) H sl25 rfl rfl (by omega) (fun b11 s1 H => ?_)))
  refine za rfl (zm rfl (za rfl (op_appendNone' H sl25 qF rfl rfl rfl (by have := (hl.kept H).elemsS; rw [hl0, List.length_eq_zero_iff.mp hl0] at this; rw [hl0]; exact this) (by decide) (by decide) (by omega) (fun s13 H => ?_))))
  refine za rfl (zT rfl (zb (zx (ze (za rfl (zm rfl (za rfl (z7 qF rfl rfl rfl (za rfl (yJ rfl rfl (fun h => ?_) (fun h => ?_)))))))))))
  ·refine zb (zq rfl (ze (za rfl (zf rfl (za rfl (zf rfl (za rfl (yZ (c := [.int _ _, .int _ _, .bool _, .slice _ _ _, .bool _, .slice _ _ _, .bool _, .slice _ _ _, .bool _, .slice _ _ _]) bf62 rfl (za rfl (yd (c := [.int _ _, .int _ _, .bool _, .slice _ _ _, .bool _, .slice _ _ _, .bool _, .slice _ _ _, .bool _, .slice _ _ _]) H sl25 rfl rfl (by omega) (fun b20 s2 H => ?_)))))))))))
   refine za rfl (zT rfl (zb (zu (zn (zp (zQ (⟨[_], [], [⟨at_, by_, false, default, false, default, false, default, false, default⟩], (H.sub (L' := [_]) (.cons_cons _ (List.nil_sublist _))).up (by omega), ?_, by simp, (fun _ h => by omega), ?_⟩)))))))
   ·exact spsG (l := [(⟨at_, by_, false, default, false, default, false, default, false, default⟩ : Sp)]) (cap := 2 * 1) (by simp)
   ·intro x hx
    rw [List.mem_singleton] at hx
    subst hx
    exact ⟨⟨h2, h3⟩, .inl ⟨rfl, rfl, [], [], [], [], ⟨.nil 0 rfl rfl, by simp⟩, ⟨.nil 0 rfl rfl, by simp⟩, ⟨.nil 0 rfl rfl, by simp⟩, ⟨.nil 0 rfl rfl, by simp⟩⟩⟩
  refine zb (zv rfl (zD (zj ?_)))
  exfalso
  omega
 refine ze (za rfl (yd (c := []) H sl25 rfl rfl (by omega) (fun b11 s3 H => ?_)))
 refine za rfl (zm rfl (za rfl (op_append00 H sl25 qF rfl rfl rfl (hl.kept H).elemsS (by omega) (sps_plain l) (sps_len l) (by omega) (by omega) (fun b13 s13 H => ?_))))
 refine za rfl (zT rfl (zb (zx (ze (za rfl (zm rfl (za rfl (z7 qF rfl rfl rfl (za rfl (yJ rfl rfl (fun h => ?_) (fun h => ?_)))))))))))
 ·refine zb (zq rfl ?_)
  exfalso
  omega
 refine zb (zv rfl (zD (zj (ze (za rfl (zf rfl (za rfl (zm rfl (za rfl (z7 qF rfl rfl rfl (za rfl (zy rfl fc10 rfl ?_))))))))))))
 obtain ⟨_, _, hr, rfl, rfl⟩ := qS (a := at_) (n := (l.length : Int)) hI h2 (by omega)
 refine ⟨_, _, hr, ?_⟩
 clear hr
 refine za rfl (zk rfl (zb (zx ?_)))
 have hkr := xH (a := at_) (n := (l.length : Int)) (by omega)
 obtain ⟨m, hme⟩ : ∃ m : Nat, xq at_ (l.length : Int) = (m : Int) := ⟨(xq at_ (l.length : Int)).toNat, by omega⟩
 have hm : m < l.length := by omega
 rw [hme]
 refine ze (za rfl (zf rfl (za rfl (zy rfl fc10 rfl ?_))))
 obtain ⟨_, _, hr, rfl, rfl⟩ := qS (a := how) (n := 6) hI h1 (by decide)
 refine ⟨_, _, hr, ?_⟩
 clear hr
 refine zb (zL (ze (za rfl (yJ rfl rfl (fun h => ?_) (fun h => ?_)))))
 ·refine za rfl (zr rfl (zb (zq rfl (zF (za rfl (zm rfl (za rfl (zf rfl (za rfl (zf rfl (za rfl (zB el25 rfl rfl (by omega) (by omega) (za rfl (zg xT rfl (za rfl (zX (c' := xX (l.set m ⟨by_, (l.getD m default).p, (l.getD m default).n1, (l.getD m default).s1, (l.getD m default).n2, (l.getD m default).s2, (l.getD m default).n3, (l.getD m default).s3, (l.getD m default).n4, (l.getD m default).s4⟩)) H sz23 rfl rfl rfl rfl (sps_put (j := 0) hm (by omega) (fun B => rfl)) (by omega) (fun s33 H => ?_)))))))))))))))))
  refine zb (zP (zj (ze (za rfl (zm rfl (za rfl (zT rfl (zb (zu (zp (zQ ?_)))))))))))
  have hg := spsG (b := b13) (cap := 2 * l.length + 1) (l := (l.set m ⟨by_, (l.getD m default).p, (l.getD m default).n1, (l.getD m default).s1, (l.getD m default).n2, (l.getD m default).s2, (l.getD m default).n3, (l.getD m default).s3, (l.getD m default).n4, (l.getD m default).s4⟩)) (by simp; omega)
  simp only [List.length_set] at hg
  refine ⟨[_], [], (l.set m ⟨by_, (l.getD m default).p, (l.getD m default).n1, (l.getD m default).s1, (l.getD m default).n2, (l.getD m default).s2, (l.getD m default).n3, (l.getD m default).s3, (l.getD m default).n4, (l.getD m default).s4⟩), H.up (by omega), hg, by simp, (fun e _ => False.elim (no3 e (by omega))), ?_⟩
  intro x hx
  rcases List.mem_or_eq_of_mem_set hx with h | h
  ·exact ⟨hin x h, .inr ⟨x, h, rfl, rfl, rfl, rfl, rfl, rfl⟩⟩
  ·subst h
   exact ⟨(by exact ⟨h3, (hin (l.getD m default) (zR hm)).2⟩), .inr ⟨(l.getD m default), zR hm, rfl, rfl, rfl, rfl, rfl, rfl⟩⟩
 refine za rfl (zr rfl (zb (zv rfl (ze (za rfl (yJ rfl rfl (fun h => ?_) (fun h => ?_)))))))
 ·refine za rfl (zr rfl (zb (zq rfl (zF (za rfl (zm rfl (za rfl (zf rfl (za rfl (zf rfl (za rfl (zB el25 rfl rfl (by omega) (by omega) (za rfl (zg y9 rfl (za rfl (zX (c' := xX (l.set m ⟨(l.getD m default).w, by_, (l.getD m default).n1, (l.getD m default).s1, (l.getD m default).n2, (l.getD m default).s2, (l.getD m default).n3, (l.getD m default).s3, (l.getD m default).n4, (l.getD m default).s4⟩)) H sz23 rfl rfl rfl rfl (sps_put (j := 1) hm (by omega) (fun B => rfl)) (by omega) (fun s33 H => ?_)))))))))))))))))
  refine zb (zP (zj (ze (za rfl (zm rfl (za rfl (zT rfl (zb (zu (zp (zQ ?_)))))))))))
  have hg := spsG (b := b13) (cap := 2 * l.length + 1) (l := (l.set m ⟨(l.getD m default).w, by_, (l.getD m default).n1, (l.getD m default).s1, (l.getD m default).n2, (l.getD m default).s2, (l.getD m default).n3, (l.getD m default).s3, (l.getD m default).n4, (l.getD m default).s4⟩)) (by simp; omega)
  simp only [List.length_set] at hg
  refine ⟨[_], [], (l.set m ⟨(l.getD m default).w, by_, (l.getD m default).n1, (l.getD m default).s1, (l.getD m default).n2, (l.getD m default).s2, (l.getD m default).n3, (l.getD m default).s3, (l.getD m default).n4, (l.getD m default).s4⟩), H.up (by omega), hg, by simp, (fun e _ => False.elim (no3 e (by omega))), ?_⟩
  intro x hx
  rcases List.mem_or_eq_of_mem_set hx with h | h
  ·exact ⟨hin x h, .inr ⟨x, h, rfl, rfl, rfl, rfl, rfl, rfl⟩⟩
  ·subst h
   exact ⟨(by exact ⟨(hin (l.getD m default) (zR hm)).1, h3⟩), .inr ⟨(l.getD m default), zR hm, rfl, rfl, rfl, rfl, rfl, rfl⟩⟩
 refine za rfl (zr rfl (zb (zv rfl (ze (za rfl (yJ rfl rfl (fun h => ?_) (fun h => ?_)))))))
 ·refine za rfl (zr rfl (zb (zq rfl (zF (za rfl (zm rfl (za rfl (zf rfl (za rfl (zf rfl (za rfl (zy rfl fc38 rfl ?_))))))))))))
  obtain ⟨_, s9, hr, Dn, n1, s1, s2, n3, s3, s4, l1, l2, l3, l4, rfl, Hc, hd1, hd2, hd3, hd4⟩ := of05_ok (x := by_) (y := 0) hI H.fine h3 ⟨by decide, by decide⟩ (by have := H.most; omega)
  refine ⟨_, _, hr, ?_⟩
  clear hr
  have H := H.callE Hc
  clear Hc
  try simp only [List.cons_append, List.nil_append, List.append_assoc] at H
  refine za rfl (zB el25 rfl rfl (by omega) (by omega) (za rfl (zg of62_2 rfl (za rfl (zX (c' := xX (l.set m ⟨(l.getD m default).w, (l.getD m default).p, n1, s1, false, s2, n3, s3, false, s4⟩)) H sz60 rfl rfl rfl rfl (sps_put (j := 2) hm (by omega) (fun B => rfl)) (by omega) (fun s33 H => ?_))))))
  refine zb (zP (zj (ze (za rfl (zm rfl (za rfl (zT rfl (zb (zu (zp (zQ ?_)))))))))))
  have hg := spsG (b := b13) (cap := 2 * l.length + 1) (l := (l.set m ⟨(l.getD m default).w, (l.getD m default).p, n1, s1, false, s2, n3, s3, false, s4⟩)) (by simp; omega)
  simp only [List.length_set] at hg
  refine ⟨[_], Dn, (l.set m ⟨(l.getD m default).w, (l.getD m default).p, n1, s1, false, s2, n3, s3, false, s4⟩), H.up (by omega), hg, by simp, (fun e _ => False.elim (no3 e (by omega))), ?_⟩
  intro x hx
  rcases List.mem_or_eq_of_mem_set hx with h | h
  ·exact ⟨hin x h, .inr ⟨x, h, rfl, rfl, rfl, rfl, rfl, rfl⟩⟩
  ·subst h
   exact ⟨hin (l.getD m default) (zR hm), .inl ⟨rfl, rfl, l1, l2, l3, l4, hd1, hd2, hd3, hd4⟩⟩
 refine za rfl (zr rfl (zb (zv rfl (ze (za rfl (yJ rfl rfl (fun h => ?_) (fun h => ?_)))))))
 ·refine za rfl (zr rfl (zb (zq rfl (zF (za rfl (zm rfl (za rfl (zm rfl (za rfl (z7 qF rfl rfl rfl (za rfl (xm rfl rfl (by unfold zS; omega) (za rfl (op_sliceHi (m := l.length - 1) sl25 rfl rfl (by show ((l.length : Nat) : Int) - 1 = _; omega) H.own0 (by omega) (za rfl (zT rfl (zb (zP ?_))))))))))))))))))
  refine zj (ze (za rfl (zm rfl (za rfl (zT rfl (zb (zu (zp (zQ ?_)))))))))
  have hg := (spsG (b := b13) (cap := 2 * l.length + 1) (l := l) (by omega)).take (m := l.length - 1) (by simp)
  rw [← List.map_take] at hg
  refine ⟨[_], [], l.take (l.length - 1), H.up (by omega), hg, by simp; omega, (fun _ h => by simp only [List.length_take]; omega), ?_⟩
  intro x hx
  exact ⟨hin x (List.mem_of_mem_take hx), .inr ⟨x, List.mem_of_mem_take hx, rfl, rfl, rfl, rfl, rfl, rfl⟩⟩
 refine za rfl (zr rfl (zb (zv rfl (ze (za rfl (yJ rfl rfl (fun h => ?_) (fun h => ?_)))))))
 ·refine za rfl (zr rfl (zb (zq rfl (zF (za rfl (zm rfl (za rfl (zm rfl (za rfl (zf rfl (za rfl (zB el25 rfl rfl (by omega) (by omega) (za rfl (ya sh62 rfl H.own0 (sps_get hm (by omega)) (za rfl (yd (c := [.int _ _, .int _ _, .bool _, .slice _ _ _, .bool _, .slice _ _ _, .bool _, .slice _ _ _, .bool _, .slice _ _ _]) H sl25 rfl rfl (by omega) (fun b63 s4 H => ?_)))))))))))))))))
  have hgt := H.own0
  have H := H.drop0
  refine za rfl (op_append0 H sl25 qF rfl rfl rfl (xa hgt rfl) (by rw [sps_len]) (by omega) rfl rfl (by omega) (by omega) (fun b64 s64 H => ?_))
  refine za rfl (zT rfl (zb (zP (zj (ze (za rfl (zm rfl (za rfl (zT rfl (zb (zu (zp (zQ ?_)))))))))))))
  have hg := spsG (b := b64) (cap := 2 * (l.length + 1) + 1) (l := l ++ [(l.getD m default)]) (by simp; omega)
  rw [show xX (l ++ [l.getD m default]) = xX l ++ (l.getD m default).cells from flat_snoc, List.length_append] at hg
  refine ⟨[_], [], l ++ [(l.getD m default)], H.up (by omega), hg, by simp, (fun e _ => False.elim (no3 e (by omega))), ?_⟩
  intro x hx
  rcases List.mem_append.mp hx with h | h
  ·exact ⟨hin x h, .inr ⟨x, h, rfl, rfl, rfl, rfl, rfl, rfl⟩⟩
  ·rw [List.mem_singleton] at h
   subst h
   exact ⟨(by exact hin (l.getD m default) (zR hm)), .inr ⟨(l.getD m default), zR hm, rfl, rfl, rfl, rfl, rfl, rfl⟩⟩
 refine za rfl (zr rfl (zb (zv rfl (ze (za rfl (yJ rfl rfl (fun h => ?_) (fun h => ?_)))))))
 ·refine za rfl (zr rfl (zb (zq rfl (cw_draw [⟨0, 0, .light, [5, 9]⟩, ⟨1, 0, .light, [5, 9]⟩, ⟨2, 0, .light, [5, 9]⟩, ⟨3, 0, .light, [9]⟩, ⟨4, 8, .light, [9]⟩, ⟨5, 24, .light, [9]⟩, ⟨6, 0, .light, [5]⟩, ⟨7, 0, .light, [5]⟩, ⟨8, 192, .light, [5]⟩, ⟨9, 448, .light, [5]⟩, ⟨10, 1019, .light, []⟩, ⟨11, 2043, .whole, []⟩, ⟨12, 4095, .light, []⟩, ⟨13, 8191, .whole, []⟩] (by kernel_rfl) (by kernel_rfl) (zd rfl rfl (zm rfl ⟨rfl, (zd rfl rfl (zf rfl ⟨rfl, (zd rfl rfl (zm rfl ⟨rfl, (zd rfl rfl (zm rfl ⟨rfl, (zd rfl rfl (zB el25 rfl rfl (by omega) (by omega) ⟨rfl, (yV rfl rfl sh62 rfl H.own0 (H.lim0 (by omega)) (sps_get (k := 0) (by omega) rfl) (zd rfl rfl (zm rfl ⟨rfl, (zd rfl rfl (zf rfl ⟨rfl, ?_⟩))⟩)))⟩))⟩))⟩))⟩))⟩))))))
  refine zd rfl rfl (zB el25 rfl rfl (by omega) (by omega) ⟨rfl, (yV rfl rfl sh62 rfl H.own0 (H.lim0 (by omega)) (sps_get hm (by omega)) (zd rfl rfl (zB el25 rfl rfl (by omega) (by omega) ⟨rfl, (qR (c' := xX (l.set m (l.getD 0 default))) (fr := []) H rfl rfl sz62 rfl rfl rfl rfl (sps_put (j := 0) hm (by omega) (fun B => rfl)) rfl (by intro p hp; cases hp) (by omega) (fun s77 H => ?_))⟩)))⟩)
  refine zd rfl rfl (zB el25 rfl rfl (by omega) (by omega) ⟨rfl, (qR (c' := xX ((l.set m (l.getD 0 default)).set 0 (l.getD m default))) (fr := []) H rfl rfl sz62 rfl rfl rfl rfl (sps_put (j := 0) (by simp; omega) rfl (fun B => rfl)) rfl (by intro p hp; cases hp) (by omega) (fun s78 H => ?_))⟩)
  refine zV (zP (zj (ze (za rfl (zm rfl (za rfl (zT rfl (zb (zu (zp (zQ ?_)))))))))))
  have hg := spsG (b := b13) (cap := 2 * l.length + 1) (l := ((l.set m (l.getD 0 default)).set 0 (l.getD m default))) (by simp; omega)
  simp only [List.length_set] at hg
  refine ⟨[_], [], ((l.set m (l.getD 0 default)).set 0 (l.getD m default)), H.up (by omega), hg, by simp, (fun e _ => False.elim (no3 e (by omega))), ?_⟩
  intro x hx
  rcases List.mem_or_eq_of_mem_set hx with h | h
  ·rcases List.mem_or_eq_of_mem_set h with h | h
   ·exact ⟨hin x h, .inr ⟨x, h, rfl, rfl, rfl, rfl, rfl, rfl⟩⟩
   ·subst h
    exact ⟨hin _ (zR (by omega)), .inr ⟨l.getD 0 default, zR (by omega), rfl, rfl, rfl, rfl, rfl, rfl⟩⟩
  ·subst h
   exact ⟨(by exact hin (l.getD m default) (zR hm)), .inr ⟨(l.getD m default), zR hm, rfl, rfl, rfl, rfl, rfl, rfl⟩⟩
 refine za rfl (zr rfl (zb (zv rfl (zD (zP (zj (ze (za rfl (zm rfl (za rfl (zT rfl (zb (zu (zp ?_))))))))))))))
 refine zQ ?_
 exfalso
 have := xH (a := how) (n := 6) (by decide)
 omega
end Go.Proofs.YtdejleegamcioaaGreat
