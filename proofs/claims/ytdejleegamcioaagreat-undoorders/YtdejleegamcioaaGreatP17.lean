/- The reference's cases: what they are made of. -/
/- Cells of lists of splits: reading and writing one. -/
/- A list of splits with one thing changed. -/
/- Maps from sets to what is known of them: rules. -/
/- The least cleaning of a set: what the program's recursion comes to. -/
/- Which sets come about from a set by splits of sets that need work. -/
import Derived.Test.YtdejleegamcioaaGreatP16
namespace Go.Proofs.YtdejleegamcioaaGreat
open Go Go.M
theorem bf27 : buildF Tryz.prog 27 = some ([.int .i64 0, .slice none 0 0, .int .i64 0, .slice none 0 0], [(0, 1), (1, 1), (2, 1), (3, 1)]) := by kernel_rfl
theorem bf30 : buildF Tryz.prog 30 = some ([.int .i64 0, .int .i64 0], [(0, 1), (1, 1)]) := by kernel_rfl
theorem bf62 : buildF Tryz.prog 62 = some ([.int .i64 0, .int .i64 0, .bool false, .slice none 0 0, .bool false, .slice none 0 0, .bool false, .slice none 0 0, .bool false, .slice none 0 0], [(0, 1), (1, 1), (2, 8)]) := by kernel_rfl
theorem el31 : elemF Tryz.prog 31 = some (true, 0, 1) := by kernel_rfl
theorem fb9 : yw Tryz.f9 (Tryz.f9.body.getD .skip) 1 = true := by kernel_rfl
theorem fc30 : yk Tryz.prog 30 = true := by kernel_rfl
theorem fc38 : yk Tryz.prog 38 = true := by kernel_rfl
theorem fc39 : yk Tryz.prog 39 = true := by kernel_rfl
theorem of27_0 : offF Tryz.prog 27 0 = some 0 := by kernel_rfl
theorem of27_1 : offF Tryz.prog 27 1 = some 1 := by kernel_rfl
theorem of27_2 : offF Tryz.prog 27 2 = some 2 := by kernel_rfl
theorem of27_3 : offF Tryz.prog 27 3 = some 3 := by kernel_rfl
theorem sh24 : z1 Tryz.prog 24 = some (none) := by kernel_rfl
theorem sh25 : z1 Tryz.prog 25 = some (none) := by kernel_rfl
theorem sh27 : z1 Tryz.prog 27 = some (some 4) := by kernel_rfl
theorem sl25 : xG Tryz.prog 25 = some (62, 10, 144, [.int .i64 0, .int .i64 0, .bool false, .slice none 0 0, .bool false, .slice none 0 0, .bool false, .slice none 0 0, .bool false, .slice none 0 0]) := by kernel_rfl
theorem sl31 : xG Tryz.prog 31 = some (23, 1, 8, [.int .i64 0]) := by kernel_rfl
theorem sz23 : yR Tryz.prog 23 = some 1 := by kernel_rfl
theorem sz24 : yR Tryz.prog 24 = some 1 := by kernel_rfl
theorem sz25 : yR Tryz.prog 25 = some 1 := by kernel_rfl
theorem sz27 : yR Tryz.prog 27 = some 4 := by kernel_rfl
theorem un31 : Tryz.prog.underlying 31 = some (.slice 23) := by kernel_rfl
theorem zf27 : xQ Tryz.prog 27 = some [.int .i64 0, .slice none 0 0, .int .i64 0, .slice none 0 0] := by kernel_rfl
theorem valid_parts {w p : Int} (h : qo w p = true) : 0 ≤ p ∧ p ≤ w ∧ 0 ≤ zB w p ∧ zB w p ≤ w := by
 simp only [qo, Bool.and_eq_true, decide_eq_true_eq] at h
 obtain ⟨⟨⟨⟨h1, h2⟩, h3, h4⟩, h5⟩, h6⟩ := h
 obtain ⟨a, rfl⟩ := Int.eq_ofNat_of_zero_le (show 0 ≤ w by omega)
 obtain ⟨b, rfl⟩ := Int.eq_ofNat_of_zero_le (show 0 ≤ p by omega)
 have ha := x7 (a := a) (by omega)
 rw [andI_nat (by omega) (by omega)] at h5
 have h7 : b &&& a ≤ a := Nat.and_le_right
 have h8 : (BitVec.ofInt 64 (a : Int) &&& ~~~ BitVec.ofInt 64 (b : Int)).toNat ≤ a := by
  rw [BitVec.toNat_and, ha]
  exact Nat.and_le_left
 have hr : zB (a : Int) (b : Int) = ((BitVec.ofInt 64 (a : Int) &&& ~~~ BitVec.ofInt 64 (b : Int)).toNat : Int) := by
  unfold zB bitsI
  simp only
  rw [wrap_in ⟨by omega, by omega⟩]
 rw [hr]
 omega
theorem two_pow6 {n : Nat} (h : n ≤ 6) : (2 : Int) ^ n ≤ 64 := by
 have h1 : (2 : Nat) ^ n ≤ 2 ^ 6 := Nat.pow_le_pow_right (by decide) h
 have e : ((2 : Int) ^ n) = (((2 : Nat) ^ n : Nat) : Int) := by simp
 rw [e]
 have : (2 : Nat) ^ 6 = 64 := by decide
 omega
set_option maxHeartbeats 4000000 in
set_option maxRecDepth 10000 in
theorem made63_ok {I : zJ} (hI : Plain I) {s : St} (hf : Fine s) {v : Value} {l : List Int} (hl : SlI s v l) (hin : ∀ x ∈ l, zQ x) (hroom : s.next + 30000000000000 ≤ zh) :
  ∃ v' s', yE Tryz.prog I 9 #[v] s v' s' ∧ (∃ (D DD : Hp') (sj sm : Slc) (js : List (Int × Int)) (may : List Sp) (n : Nat) (w bad : Int), v' = .agg ⟨[.int .i64 w, Slc.v sj, .int .i64 bad, Slc.v sm]⟩ ∧ HL [] s s' (D ++ DD) 30000000000000 ∧ SlG D 30 2 sj.v (js.map jc) ∧ SlG D 62 10 sm.v (may.map Sp.cells) ∧ (2 ≤ n ∧ n ≤ 6 ∧ w = 2 ^ n - 1) ∧ (1 ≤ js.length ∧ js.length ≤ 8) ∧ (∀ j ∈ js, (0 ≤ j.1 ∧ j.1 < (n : Nat)) ∧ (0 ≤ j.2 ∧ j.2 < (n : Nat)) ∧ j.1 ≠ j.2) ∧ (0 ≤ bad ∧ bad < 2 ^ js.length) ∧ may.length ≤ 14 ∧ (∀ x ∈ may, (qo x.w x.p = true ∧ DirIn DD x) ∧ x.w ≤ 63)) := by
 have H := hf.hl
 obtain ⟨a, len, cap, rfl, hn⟩ := hl.isSlice
 subst hn
 have hN := atZ_range (l := l) (i := 0) (n := 5) (by decide)
 have hM := atZ_range (l := l) (i := 1) (n := 8) (by decide)
 have hNp := two_pow8 (n := (2 + atZ l 0 5).toNat) (by omega)
 have hN6 := two_pow6 (n := (2 + atZ l 0 5).toNat) (by omega)
 have hMp := two_pow8 (n := (1 + atZ l 1 8).toNat) (by omega)
 refine zY 1 (hI 9 (by decide) (by decide) (by decide) (by decide)) Tryz.func9 rfl fb9 rfl ?_
 refine zc (za rfl (zC H zf27 (by omega) (fun b2 s1 H => ?_)))
 refine zb (zc (za rfl (zp rfl (za rfl (zo rfl fc30 rfl ?_)))))
 obtain ⟨_, _, hr, rfl, rfl⟩ := at_ok (i := 0) (n := 5) hI (hl.kept H) hin (by decide)
 refine ⟨_, _, hr, ?_⟩
 clear hr
 refine za rfl (zT rfl rfl (by unfold zQ; omega) (za rfl (zm rfl (zb (zc (za rfl (zd rfl (za rfl (op_shl rfl rfl (by omega) (by omega) (by unfold zQ; omega) (za rfl (op_sub rfl rfl (by show zQ (1 * 2 ^ (2 + atZ l 0 5).toNat - 1); unfold zQ; omega) (za rfl (yN (c := [.int _ _, .slice _ _ _, .int _ _, .slice _ _ _]) bf27 rfl (za rfl (zC H zf27 (by omega) (fun b4 s2 H => ?_))))))))))))))))
 refine za rfl (zD (vs := [.int _ _, .slice _ _ _, .int _ _, .slice _ _ _]) H sz27 rfl rfl rfl rfl rfl (by omega) (fun s3 H => ?_))
 refine zb (zc (za rfl (zp rfl (za rfl (zo rfl fc30 rfl ?_)))))
 obtain ⟨_, _, hr, rfl, rfl⟩ := at_ok (i := 1) (n := 8) hI (hl.kept H) hin (by decide)
 refine ⟨_, _, hr, ?_⟩
 clear hr
 refine za rfl (zT rfl rfl (by unfold zQ; omega) (za rfl (zm rfl (zb (zq (zc (za rfl (zk (zb (zI (yP (fun k F s1 => ∃ (G : FF) (i : Nat) (D1 : Hp') (sj : Slc) (js : List (Int × Int)), F = lay G [(0, .slice a l.length cap), (2, .pointer (some ⟨b2, 0, none⟩)), (3, .int .i64 (2 + atZ l 0 5)), (4, .pointer (some ⟨b4, 0, none⟩)), (5, .int .i64 (1 + atZ l 1 8)), (6, .int .i64 (i : Int))] ∧ HL [] s s1 ([(b4, .cells [.int .i64 (1 * 2 ^ (2 + atZ l 0 5).toNat - 1), sj.v, .int .i64 0, .slice none 0 0] 27), (b2, .cells [.int .i64 0, .slice none 0 0, .int .i64 0, .slice none 0 0] 27)] ++ D1) (2 + 2 * i) ∧ Own 30 2 D1 sj.v (js.map jc).flatten js.length ∧ js.length = i ∧ (i : Int) ≤ (1 + atZ l 1 8) ∧ (∀ j ∈ js, (0 ≤ j.1 ∧ j.1 < (2 + atZ l 0 5)) ∧ (0 ≤ j.2 ∧ j.2 < (2 + atZ l 0 5)) ∧ j.1 ≠ j.2) ∧ k = ((1 + atZ l 1 8) - i).toNat) ?_ (1 + atZ l 1 8).toNat _ _ ?_)))))))))))
 rotate_left
 ·exact ⟨_, 0, [], ⟨none, 0, 0⟩, [], yd ⟨rfl, rfl, rfl, rfl, rfl, rfl, trivial⟩, H, .nil, rfl, by omega, (by intro j hj; cases hj), by omega⟩
 rintro k F s1 ⟨G, i, D1, sj, js, rfl, H, ho, hji, him, hjr, rfl⟩
 refine zq (zc (za rfl (zd rfl (za rfl (zd rfl (za rfl (yq rfl rfl (fun h => ?_) (fun h => ?_))))))))
 ·refine zb (zE rfl (zA (zi (zq (zI (zc (za rfl (zp rfl (za rfl (zd rfl (za rfl (op_mul rfl rfl (by unfold zQ; omega) (za rfl (zT rfl rfl (by unfold zQ; omega) (za rfl (zd rfl ?_))))))))))))))))
  refine za rfl (zo rfl fc30 rfl ?_)
  obtain ⟨_, _, hr, rfl, rfl⟩ := at_ok (i := 2 + 2 * (i : Int)) (n := (2 + atZ l 0 5)) hI (hl.kept H) hin (by omega)
  refine ⟨_, _, hr, ?_⟩
  clear hr
  have hA := atZ_range (l := l) (i := 2 + 2 * (i : Int)) (n := (2 + atZ l 0 5)) (by omega)
  refine za rfl (zm rfl (zb (zc (za rfl (zp rfl (za rfl (zd rfl (za rfl (op_mul rfl rfl (by unfold zQ; omega) (za rfl (zT rfl rfl (by unfold zQ; omega) (za rfl (zd rfl (za rfl (op_sub rfl rfl (by unfold zQ; omega) (za rfl (zo rfl fc30 rfl ?_)))))))))))))))))
  obtain ⟨_, _, hr, rfl, rfl⟩ := at_ok (i := 3 + 2 * (i : Int)) (n := (2 + atZ l 0 5) - 1) hI (hl.kept H) hin (by omega)
  refine ⟨_, _, hr, ?_⟩
  clear hr
  have hB := atZ_range (l := l) (i := 3 + 2 * (i : Int)) (n := (2 + atZ l 0 5) - 1) (by omega)
  refine za rfl (zm rfl (zb (zq (zc (za rfl (zd rfl (za rfl (zd rfl (za rfl (qd rfl rfl (fun h => ?_) (fun h => ?_)))))))))))
  ·refine zb (zE rfl (zv (za rfl (zd rfl (za rfl (zT rfl rfl (by unfold zQ; omega) (za rfl (zm rfl (zb (zi (zv (za rfl (zf of27_1 rfl (za rfl (zj sh24 rfl H.own0 rfl (za rfl (zd rfl ?_)))))))))))))))))
   refine za rfl (zd rfl (za rfl (yN (c := [.int _ _, .int _ _]) bf30 rfl (za rfl (ya (c := [.int _ _, .int _ _]) H sl24 rfl rfl (by omega) (fun b52 s4 H => ?_))))))
   have hgt := H.own0
   have H := HL.swap (A := [_, _]) (B := D1) H.drop0
   refine za rfl (yT H ho sl24 un24 rfl rfl rfl (yH hgt rfl) (by decide) rfl rfl (by omega) (by omega) (fun b53 s53 H ho => ?_))
   refine za rfl (zf of27_1 rfl (za rfl (x6 (vs := [.slice _ _ _]) H sz24 rfl rfl rfl rfl rfl (by omega) (fun s5 H => ?_))))
   refine zb (zP (zi (zv (za rfl (zd rfl (za rfl (zT rfl rfl (by unfold zQ; omega) (za rfl (zm rfl (zb (zN (⟨((1 + atZ l 1 8) - (i + 1 : Nat)).toNat, by omega, _, i + 1, [(b53, .cells ((js.map jc).flatten ++ jc ((atZ l (2 + 2 * (i : Int)) (2 + atZ l 0 5)), ((atZ l (3 + 2 * (i : Int)) ((2 + atZ l 0 5) - 1)) + 1))) 30)], ⟨some ⟨b53, 0, none⟩, js.length + 1, 2 * (js.length + 1) + 1⟩, js ++ [((atZ l (2 + 2 * (i : Int)) (2 + atZ l 0 5)), ((atZ l (3 + 2 * (i : Int)) ((2 + atZ l 0 5) - 1)) + 1))], yd ⟨rfl, rfl, rfl, rfl, rfl, rfl, trivial⟩, ?_, ?_, by simp; omega, by omega, ?_, rfl⟩))))))))))))
   ·refine HL.up (n := 2 + 2 * i + 1 + 1) ?_ (by omega)
    exact HL.swap (A := [_]) (B := [_, _]) H
   ·rw [flat_snoc, List.length_append]
    exact ho
   ·intro j hj
    rcases List.mem_append.mp hj with hj | hj
    ·exact hjr j hj
    ·rw [List.mem_singleton] at hj
     subst hj
     exact ⟨⟨hA.1, hA.2⟩, ⟨by omega, by omega⟩, by omega⟩
  refine zb (zx rfl (zA (zi (zv (za rfl (zf of27_1 rfl (za rfl (zj sh24 rfl H.own0 rfl (za rfl (zd rfl (za rfl (zd rfl (za rfl (yN (c := [.int _ _, .int _ _]) bf30 rfl (za rfl (ya (c := [.int _ _, .int _ _]) H sl24 rfl rfl (by omega) (fun b52 s6 H => ?_)))))))))))))))))
  have hgt := H.own0
  have H := HL.swap (A := [_, _]) (B := D1) H.drop0
  refine za rfl (yT H ho sl24 un24 rfl rfl rfl (yH hgt rfl) (by decide) rfl rfl (by omega) (by omega) (fun b53 s53 H ho => ?_))
  refine za rfl (zf of27_1 rfl (za rfl (x6 (vs := [.slice _ _ _]) H sz24 rfl rfl rfl rfl rfl (by omega) (fun s7 H => ?_))))
  refine zb (zP (zi (zv (za rfl (zd rfl (za rfl (zT rfl rfl (by unfold zQ; omega) (za rfl (zm rfl (zb (zN (⟨((1 + atZ l 1 8) - (i + 1 : Nat)).toNat, by omega, _, i + 1, [(b53, .cells ((js.map jc).flatten ++ jc ((atZ l (2 + 2 * (i : Int)) (2 + atZ l 0 5)), (atZ l (3 + 2 * (i : Int)) ((2 + atZ l 0 5) - 1)))) 30)], ⟨some ⟨b53, 0, none⟩, js.length + 1, 2 * (js.length + 1) + 1⟩, js ++ [((atZ l (2 + 2 * (i : Int)) (2 + atZ l 0 5)), (atZ l (3 + 2 * (i : Int)) ((2 + atZ l 0 5) - 1)))], yd ⟨rfl, rfl, rfl, rfl, rfl, rfl, trivial⟩, ?_, ?_, by simp; omega, by omega, ?_, rfl⟩))))))))))))
  ·refine HL.up (n := 2 + 2 * i + 1 + 1) ?_ (by omega)
   exact HL.swap (A := [_]) (B := [_, _]) H
  ·rw [flat_snoc, List.length_append]
   exact ho
  ·intro j hj
   rcases List.mem_append.mp hj with hj | hj
   ·exact hjr j hj
   ·rw [List.mem_singleton] at hj
    subst hj
    exact ⟨⟨hA.1, hA.2⟩, ⟨by omega, by omega⟩, by omega⟩
 refine zb (zx rfl (yn (zX (yh (ye (zi (zc (za rfl (zp rfl (za rfl (zd rfl (za rfl (op_shl rfl rfl (by omega) (by omega) (by unfold zQ; omega) (za rfl (zo rfl fc30 rfl ?_)))))))))))))))
 obtain ⟨_, _, hr, rfl, rfl⟩ := at_ok (i := 18) (n := 1 * 2 ^ (1 + atZ l 1 8).toNat) hI (hl.kept H) hin (by omega)
 refine ⟨_, _, hr, ?_⟩
 clear hr
 refine za rfl (zf of27_2 rfl (za rfl (zD (vs := [.int _ _]) H sz23 rfl rfl rfl rfl rfl (by omega) (fun s8 H => ?_))))
 refine zb (zc (za rfl (zf of27_0 rfl (za rfl (zj y1 rfl H.own0 rfl (za rfl (ya (c := [.int _ _]) H sl31 rfl rfl (by omega) (fun b62 s9 H => ?_))))))))
 refine za rfl (yb rfl (zb (zq (zc (za rfl (zk (zb (zI (yP (fun k F s1 => ∃ (G : FF) (q : Nat) (D2 D3 DD : Hp') (sm : Slc) (sa : Option Addr) (sc : Nat) (ss : List Int) (may : List Sp), F = lay G [(0, .slice a l.length cap), (2, .pointer (some ⟨b2, 0, none⟩)), (3, .int .i64 (2 + atZ l 0 5)), (4, .pointer (some ⟨b4, 0, none⟩)), (9, .slice sa ss.length sc), (10, .int .i64 (q : Int))] ∧ HL [] s s1 ([(b4, .cells [.int .i64 (1 * 2 ^ (2 + atZ l 0 5).toNat - 1), sj.v, .int .i64 (atZ l 18 (1 * 2 ^ (1 + atZ l 1 8).toNat)), sm.v] 27), (b2, .cells [.int .i64 0, .slice none 0 0, .int .i64 0, .slice none 0 0] 27)] ++ (D3 ++ (D2 ++ (D1 ++ DD)))) (30 + 2000000000100 * q) ∧ Own 23 1 D3 (.slice sa ss.length sc) (z7 ss) ss.length ∧ Own 62 10 D2 sm.v (may.map Sp.cells).flatten may.length ∧ 1 ≤ ss.length ∧ ss.length ≤ 1 + 2 * q ∧ may.length ≤ q ∧ q ≤ 14 ∧ (∀ x ∈ may, (qo x.w x.p = true ∧ DirIn DD x) ∧ x.w ≤ 63) ∧ (∀ x ∈ ss, 0 ≤ x ∧ x ≤ 63) ∧ k = 14 - q) ?_ 14 _ _ ?_)))))))))
 rotate_left
 ·refine ⟨_, 0, [], [(b62, .cells [.int .i64 (1 * 2 ^ (2 + atZ l 0 5).toNat - 1)] 23)], [], ⟨none, 0, 0⟩, some ⟨b62, 0, none⟩, 2, [(1 * 2 ^ (2 + atZ l 0 5).toNat - 1)], [], yd ⟨rfl, rfl, rfl, rfl, rfl, rfl, trivial⟩, ?_, ?_, .nil, by simp, by simp, by simp, by omega, (by intro x hx; cases hx), (by intro x hx; rw [List.mem_singleton] at hx; rw [hx]; omega), rfl⟩
  ·have H := (HL.mid (A := [_]) (B := [_, _]) (C := D1) H)
   rw [List.nil_append, List.append_nil]
   exact H.up (by omega)
  ·exact .block b62 2 _ 1 rfl (by decide)
 rintro k F s1 ⟨G, q, D2, D3, DD, sm, sa, sc, ss, may, rfl, H, hos, hom, hs1, hs2, hm1, hq, hmay, hss, rfl⟩
 refine zq (zc (za rfl (zd rfl (za rfl (yq rfl rfl (fun h => ?_) (fun h => ?_))))))
 ·refine zb (zE rfl (zA (zi (zq (zI (zc (za rfl (zp rfl (za rfl (zp rfl (za rfl (zd rfl (za rfl (op_mul rfl rfl (by unfold zQ; omega) (za rfl (zT rfl rfl (by unfold zQ; omega) ?_))))))))))))))))
  refine za rfl (zp rfl (za rfl (yf un31 rfl rfl rfl (za rfl (zo rfl fc30 rfl ?_)))))
  obtain ⟨_, _, hr, rfl, rfl⟩ := at_ok (i := 20 + 2 * (q : Int)) (n := (ss.length : Int)) hI (hl.kept H) hin (by omega)
  refine ⟨_, _, hr, ?_⟩
  clear hr
  have hC := atZ_range (l := l) (i := 20 + 2 * (q : Int)) (n := (ss.length : Int)) (by omega)
  obtain ⟨bs, ofs, cs, rfl, hgs, hbs, hcs⟩ := (((Own.slG (es := ss.map dc) (by intro x hx; obtain ⟨y, _, rfl⟩ := List.mem_map.mp hx; rfl) (by rw [← ints_flat, List.length_map]; exact hos)).sl H (by intro p hp; simp only [List.mem_append, hp, true_or, or_true])).atD (i := atZ l (20 + 2 * (q : Int)) (ss.length : Int)) (k := (atZ l (20 + 2 * (q : Int)) (ss.length : Int)).toNat) (by omega) (by omega))
  refine za rfl (zM el31 rfl rfl (by omega) (by omega) (za rfl (zj y1 rfl hgs hcs (za rfl (zm rfl (zb (zc (za rfl (zd rfl (za rfl (zp rfl (za rfl (zd rfl (za rfl (op_mul rfl rfl (by unfold zQ; omega) (za rfl (zT rfl rfl (by unfold zQ; omega) (za rfl (zd rfl (za rfl (op_shl rfl rfl (by omega) (by omega) (by unfold zQ; omega) ?_)))))))))))))))))))))
  refine za rfl (zo rfl fc30 rfl ?_)
  obtain ⟨_, _, hr, rfl, rfl⟩ := at_ok (i := 21 + 2 * (q : Int)) (n := 1 * 2 ^ (2 + atZ l 0 5).toNat) hI (hl.kept H) hin (by omega)
  refine ⟨_, _, hr, ?_⟩
  clear hr
  refine za rfl (op_and rfl rfl (za rfl (zm rfl (zb (zc (za rfl (zd rfl (za rfl (zd rfl (za rfl (zd rfl (za rfl (op_rem rfl rfl (by omega) (za rfl (zo rfl fc38 rfl ?_)))))))))))))))
  obtain ⟨_, s9, hr, Dn, n1, s1, s2, n3, s3, s4, l1, l2, l3, l4, rfl, Hc, hd1, hd2, hd3, hd4⟩ := of05_ok (x := (q : Int).tmod 3) (y := 1) hI H.fine (by rw [Int.tmod_eq_emod_of_nonneg (by omega)]; exact ⟨by omega, by omega⟩) ⟨by decide, by decide⟩ (by have := H.most; omega)
  refine ⟨_, _, hr, ?_⟩
  clear hr
  have H := H.callE Hc
  clear Hc
  try simp only [List.cons_append, List.nil_append, List.append_assoc] at H
  obtain ⟨N1, hN1⟩ : ∃ N1, N1 = 30 + 2000000000100 * q + 2000000000000 := ⟨_, rfl⟩
  rw [← hN1] at H
  refine za rfl (yN (c := [.int _ _, .int _ _, .bool _, .slice _ _ _, .bool _, .slice _ _ _, .bool _, .slice _ _ _, .bool _, .slice _ _ _]) bf62 rfl (za rfl (zC H zf62 (by omega) (fun b13 s10 H => ?_))))
  refine za rfl (zD (vs := [.int _ _, .int _ _, .bool _, .slice _ _ _, .bool _, .slice _ _ _, .bool _, .slice _ _ _, .bool _, .slice _ _ _]) H sz62 rfl rfl rfl rfl rfl (by omega) (fun s11 H => ?_))
  refine zb (zc (za rfl (z8 sh62 rfl H.own0 rfl (za rfl (zo rfl fc39 rfl ?_)))))
  obtain ⟨_, s9, hr, rfl, Hc⟩ := valid_ok (x := (⟨(ss.getD (atZ l (20 + 2 * (q : Int)) (ss.length : Int)).toNat 0), (andI (ss.getD (atZ l (20 + 2 * (q : Int)) (ss.length : Int)).toNat 0) (atZ l (21 + 2 * (q : Int)) (1 * 2 ^ (2 + atZ l 0 5).toNat))), n1, s1, false, s2, n3, s3, false, s4⟩ : Sp)) hI H.fine (by have := H.most; omega)
  refine ⟨_, _, hr, ?_⟩
  clear hr
  have H := H.call0 Hc
  clear Hc
  cases hv : qo (ss.getD (atZ l (20 + 2 * (q : Int)) (ss.length : Int)).toNat 0) (andI (ss.getD (atZ l (20 + 2 * (q : Int)) (ss.length : Int)).toNat 0) (atZ l (21 + 2 * (q : Int)) (1 * 2 ^ (2 + atZ l 0 5).toNat)))
  ·refine zb (zx rfl (zA (zP (zi (zv (za rfl (zd rfl (za rfl (zT rfl rfl (by unfold zQ; omega) (za rfl (zm rfl (zb (zN (⟨14 - (q + 1), by omega, _, q + 1, D2, D3, DD ++ Dn, sm, _, sc, ss, may, yd ⟨rfl, rfl, rfl, rfl, rfl, rfl, trivial⟩, H.drop0.up (by omega), hos, hom, hs1, by omega, by omega, by omega, ?_, hss, rfl⟩))))))))))))))
   exact fun x hx => ⟨⟨(hmay x hx).1.1, (hmay x hx).1.2.mono (List.subset_append_left _ _)⟩, (hmay x hx).2⟩
  refine zb (zE rfl (zc (za rfl (zf of27_3 rfl (za rfl (zj sh25 rfl H.own1 rfl (za rfl (z8 sh62 rfl H.own0 rfl (za rfl (ya (c := [.int _ _, .int _ _, .bool _, .slice _ _ _, .bool _, .slice _ _ _, .bool _, .slice _ _ _, .bool _, .slice _ _ _]) H sl25 rfl rfl (by omega) (fun b97 s12 H => ?_)))))))))))
  have hgt := H.own0
  have H := (HL.mid2 (A := [_, _, _]) (B := D3) (C := D2) (E := D1 ++ (DD ++ Dn)) H.drop0)
  refine za rfl (yT H hom sl25 un25 rfl rfl rfl (yH hgt rfl) (by decide) rfl rfl (by omega) (by omega) (fun b98 s98 H hom => ?_))
  refine za rfl (zf of27_3 rfl (za rfl (op_store2 (vs := [.slice _ _ _]) H sz25 rfl rfl rfl rfl rfl (by omega) (fun s13 H => ?_))))
  refine zb (zv (za rfl (zp rfl (za rfl (zd rfl (za rfl (zd rfl (za rfl (zd rfl (za rfl (op_andNot rfl rfl (za rfl (ya (c := [.int _ _, .int _ _]) H sl31 rfl rfl (by omega) (fun b105 s14 H => ?_))))))))))))))
  have hgt := H.own0
  have H := (HL.mid (A := [_, _, _, _]) (B := D3) (C := D1 ++ (DD ++ Dn)) H.drop0)
  refine za rfl (yT H hos sl31 un31 rfl rfl rfl (yH hgt rfl) (by decide) rfl rfl (by omega) (by omega) (fun b106 s106 H hos => ?_))
  refine za rfl (yb rfl (zb (zP (zi (zv (za rfl (zd rfl (za rfl (zT rfl rfl (by unfold zQ; omega) (za rfl (zm rfl (zb (zN (⟨14 - (q + 1), by omega, _, q + 1, [(b98, .cells ((may.map Sp.cells).flatten ++ Sp.cells (⟨(ss.getD (atZ l (20 + 2 * (q : Int)) (ss.length : Int)).toNat 0), (andI (ss.getD (atZ l (20 + 2 * (q : Int)) (ss.length : Int)).toNat 0) (atZ l (21 + 2 * (q : Int)) (1 * 2 ^ (2 + atZ l 0 5).toNat))), n1, s1, false, s2, n3, s3, false, s4⟩ : Sp)) 62)], [(b106, .cells (z7 ss ++ [.int .i64 (andI (ss.getD (atZ l (20 + 2 * (q : Int)) (ss.length : Int)).toNat 0) (atZ l (21 + 2 * (q : Int)) (1 * 2 ^ (2 + atZ l 0 5).toNat))), .int .i64 (zB (ss.getD (atZ l (20 + 2 * (q : Int)) (ss.length : Int)).toNat 0) (andI (ss.getD (atZ l (20 + 2 * (q : Int)) (ss.length : Int)).toNat 0) (atZ l (21 + 2 * (q : Int)) (1 * 2 ^ (2 + atZ l 0 5).toNat))))]) 23)], DD ++ Dn, ⟨some ⟨b98, 0, none⟩, may.length + 1, 2 * (may.length + 1) + 1⟩, some ⟨b106, 0, none⟩, 2 * (ss.length + 2) + 1, ss ++ [(andI (ss.getD (atZ l (20 + 2 * (q : Int)) (ss.length : Int)).toNat 0) (atZ l (21 + 2 * (q : Int)) (1 * 2 ^ (2 + atZ l 0 5).toNat))), zB (ss.getD (atZ l (20 + 2 * (q : Int)) (ss.length : Int)).toNat 0) (andI (ss.getD (atZ l (20 + 2 * (q : Int)) (ss.length : Int)).toNat 0) (atZ l (21 + 2 * (q : Int)) (1 * 2 ^ (2 + atZ l 0 5).toNat)))], may ++ [(⟨(ss.getD (atZ l (20 + 2 * (q : Int)) (ss.length : Int)).toNat 0), (andI (ss.getD (atZ l (20 + 2 * (q : Int)) (ss.length : Int)).toNat 0) (atZ l (21 + 2 * (q : Int)) (1 * 2 ^ (2 + atZ l 0 5).toNat))), n1, s1, false, s2, n3, s3, false, s4⟩ : Sp)], yd ⟨rfl, rfl, rfl, rfl, by rw [List.length_append]; rfl, rfl, trivial⟩, ?_, ?_, ?_, by simp, by simp; omega, by simp; omega, by omega, ?_, ?_, rfl⟩))))))))))))))
  ·exact ((HL.mid (A := [_, _]) (B := [_, _]) (C := D1 ++ (DD ++ Dn)) H.drop2)).up (by omega)
  ·rw [ints_append, List.length_append]
   exact hos
  ·rw [flat_snoc, List.length_append]
   exact hom
  ·intro x hx
   rcases List.mem_append.mp hx with hx | hx
   ·exact ⟨⟨(hmay x hx).1.1, (hmay x hx).1.2.mono (List.subset_append_left _ _)⟩, (hmay x hx).2⟩
   ·rw [List.mem_singleton] at hx
    subst hx
    exact ⟨⟨hv, rfl, rfl, l1, l2, l3, l4, hd1.mono (List.subset_append_right _ _), hd2.mono (List.subset_append_right _ _), hd3.mono (List.subset_append_right _ _), hd4.mono (List.subset_append_right _ _)⟩, (hss (ss.getD (atZ l (20 + 2 * (q : Int)) (ss.length : Int)).toNat 0) (yu (by omega))).2⟩
  ·have hWm := hss (ss.getD (atZ l (20 + 2 * (q : Int)) (ss.length : Int)).toNat 0) (yu (by omega))
   have hvp := valid_parts hv
   intro x hx
   rcases List.mem_append.mp hx with hx | hx
   ·exact hss x hx
   ·simp only [List.mem_cons, List.not_mem_nil, or_false] at hx
    rcases hx with rfl | rfl <;> omega
 refine zb (zx rfl (yn (zX (yh (ye (zi (zc (za rfl (z8 sh27 rfl H.own0 rfl (za rfl (x6 (vs := [.int _ _, .slice _ _ _, .int _ _, .slice _ _ _]) H sz27 rfl rfl rfl rfl rfl (by omega) (fun s15 H => ?_))))))))))))
 refine zb (zF (zt (xB sh27 rfl H.own1 rfl ?_)))
 have hbad := atZ_range (l := l) (i := 18) (n := 1 * 2 ^ (1 + atZ l 1 8).toNat) (by omega)
 have hjl : js.length = (1 + atZ l 1 8).toNat := by omega
 refine ⟨D3 ++ (D2 ++ D1), DD, sj, sm, js, may, (2 + atZ l 0 5).toNat, _, _, rfl, ?_, ?_, ?_, ⟨by omega, by omega, by omega⟩, ⟨by omega, by omega⟩, ?_, ⟨hbad.1, ?_⟩, by omega, hmay⟩
 ·rw [List.append_assoc, List.append_assoc]
  exact H.drop0.drop0.up (by omega)
 ·exact (Own.slG (es := js.map jc) (by intro x hx; obtain ⟨y, _, rfl⟩ := List.mem_map.mp hx; rfl) (by rw [List.length_map]; exact ho)).mono (by intro p hp; simp only [List.mem_append, hp, or_true])
 ·exact (Own.slG (es := may.map Sp.cells) (by intro x hx; obtain ⟨y, _, rfl⟩ := List.mem_map.mp hx; rfl) (by rw [List.length_map]; exact hom)).mono (by intro p hp; simp only [List.mem_append, hp, or_true, true_or])
 ·intro j hj
  have := hjr j hj
  omega
 ·rw [hjl]
  omega
end Go.Proofs.YtdejleegamcioaaGreat
namespace Go.Proofs.YtdejleegamcioaaGreat
open Go Go.M
abbrev spsC (l : List Sp) : List Value := (l.map Sp.cells).flatten
theorem sps_len (l : List Sp) : (spsC l).length = l.length * 10 := by
 have := flat_len (sz := 10) (es := l.map Sp.cells) (by intro x hx; obtain ⟨y, _, rfl⟩ := List.mem_map.mp hx; rfl)
 simpa using this
theorem sps_plain (l : List Sp) : (spsC l).all Go.M.plainCell = true := by
 rw [List.all_eq_true]
 intro x hx
 obtain ⟨c, hc, hx⟩ := List.mem_flatten.mp hx
 obtain ⟨y, _, rfl⟩ := List.mem_map.mp hc
 simp only [Sp.cells, List.mem_cons, List.not_mem_nil, or_false] at hx
 rcases hx with rfl | rfl | rfl | rfl | rfl | rfl | rfl | rfl | rfl | rfl <;> rfl
theorem elems_take {c : List Value} {off sz : Nat} {es : List (List Value)} (hs : 0 < sz) (hz : ∀ x ∈ es, x.length = sz) (hc : ∀ k, k < es.length → xd sz (xy (off + k * sz) c) = some (es.getD k [])) : ∀ n, n ≤ es.length → (c.drop off).take (n * sz) = (es.take n).flatten ∧ (n = 0 ∨ off + n * sz ≤ c.length)
 | 0, _ => by simp
 | n + 1, h => by
  obtain ⟨ih, _⟩ := elems_take hs hz hc n (by omega)
  have h1 := hc n (by omega)
  rw [xX, qi] at h1
  split at h1
  ·next hle =>
   rw [Option.some.injEq] at h1
   rw [List.length_drop] at hle
   have hx : (es.getD n []).length = sz := hz _ (yu (by omega))
   refine ⟨?_, ?_⟩
   ·rw [Nat.add_mul, Nat.one_mul, List.take_add, ih, List.drop_drop, h1, List.take_succ_eq_append_getElem (by omega), List.flatten_append]
    simp [List.getD_eq_getElem?_getD, List.getElem?_eq_getElem (show n < es.length by omega)]
   ·right
    rw [Nat.add_mul, Nat.one_mul]
    omega
  ·cases h1
theorem Sl.elems {s : St} {e : TypeId} {sz : Nat} {v : Value} {es : List (List Value)} (h : Sl s e sz v es) (hz : ∀ x ∈ es, x.length = sz) (hs : 0 < sz) : Elems s sz v es.length es.flatten := by
 cases h with
 | nil c hv hl => subst hl; subst hv; exact elems_nil
 | block b off cap c hv hg hb hcap hc =>
  subst hv
  by_cases hn : es.length = 0
  ·have : es = [] := List.length_eq_zero_iff.mp hn
   subst this
   refine ⟨⟨_, _, rfl⟩, ?_⟩
   simp only [xJ, hg, List.length_nil, Nat.zero_mul, xd, List.flatten_nil]
  ·obtain ⟨h1, h2⟩ := elems_take hs hz hc es.length (Nat.le_refl _)
   rw [List.take_length] at h1
   exact elems_block hg h1 (by omega)
theorem Sl.elemsS {s : St} {v : Value} {l : List Sp} (h : Sl s 62 10 v (l.map Sp.cells)) : Elems s 10 v l.length (spsC l) := by
 have := Sl.elems h (by intro x hx; obtain ⟨y, _, rfl⟩ := List.mem_map.mp hx; rfl) (by decide)
 rwa [List.length_map] at this
theorem spsG {b cap : Nat} {l : List Sp} (hcap : l.length ≤ cap / 2) : SlG [(b, .cells (spsC l) 62)] 62 10 (.slice (some ⟨b, 0, none⟩) l.length cap) (l.map Sp.cells) := by
 refine SlG.block b 0 cap (spsC l) (by simp) (by simp) (by simpa using hcap) fun k hk => ?_
 exact flat_get (by intro x hx; obtain ⟨y, _, rfl⟩ := List.mem_map.mp hx; rfl) hk
end Go.Proofs.YtdejleegamcioaaGreat
namespace Go.M
section
variable {P : Program} {I : zJ} {F : FF} {s : St} {Q : FF → St → Prop} {d : Option Tmp} {ty : TypeId} {pos : String} {af : Array Edge} {g : Option (Nat × Bool)} {W : List Nat} {s0 : St} {L : Hp'} {n : Nat}
theorem op_append00 {ag : Array Operand} {ts : Array TypeId} {t t2 e e2 : TypeId} {tr : List TypeId} {x y : Operand} {sz by_ m b : Nat} {z l : List Value} (H : HL W s0 s ((b, .cells [] e) :: L) n) (hs : xG P t = some (e, sz, by_, z)) (hu2 : P.underlying t2 = some (.slice e2))
  (ht : ts.toList = t :: t2 :: tr) (ha : ag.toList = [x, y]) (hx : zn F x = .slice (some ⟨b, 0, none⟩) 0 0) (he : Elems s sz (zn F y) m l) (hm : 0 < m) (hp : l.all plainCell = true) (hl : l.length = m * sz) (hb : m * (by_ + 1) ≤ 1073741824) (hr : s0.next + n < zh)
  (k : ∀ b' s', HL W s0 s' ((b', .cells l e) :: L) (n + 1) → Q (upd F d (.slice (some ⟨b', 0, none⟩) m (2 * m + 1))) s') : OpW P I ⟨d, .call ⟨.builtin .append, ag, ts⟩, ty, pos, af, g⟩ F s Q := by
 refine op_append0 H hs hu2 ht ha hx he (by simp) (by omega) hp hl (by rw [Nat.zero_add]; exact hb) hr fun b' s' H' => ?_
 have := k b' s' H'
 rwa [Nat.zero_add]
end
end Go.M
namespace Go.Proofs.YtdejleegamcioaaGreat
open Go Go.M
end Go.Proofs.YtdejleegamcioaaGreat
namespace Go.Proofs.YtdejleegamcioaaGreat
open Go Go.M
structure Ent where
 k : Int
 n : Int
 x : Sp
def Ent.val (e : Ent) : Value := .agg ⟨.int .i64 e.n :: e.x.cells⟩
def ents : Nat → List Ent → List MapEntry
 | _, [] => []
 | i, e :: E => { key := .int .i64 e.k, val := e.val, born := i } :: ents (i + 1) E
def x9 (E : List Ent) : MObj := .map ⟨ents 0 E⟩ E.length
def qF (E : List Ent) (k : Int) : Option Ent := E.find? fun e => decide (e.k = k)
theorem ents_append : ∀ (i : Nat) (E : List Ent) (e : Ent), ents i (E ++ [e]) = ents i E ++ [{ key := .int .i64 e.k, val := e.val, born := i + E.length }]
 | i, [], e => rfl
 | i, a :: E, e => by
  simp only [List.cons_append, ents, ents_append (i + 1) E e, List.length_cons]
  congr 4
  omega
theorem same_int (a b : Int) : Instr.sameNow (.int .i64) (.int .i64 a) (.int .i64 b) = some (decide (a = b)) := by
 simp only [Instr.sameNow, if_true]
 congr 1
theorem find_none {k : Int} : ∀ {E : List Ent} (i j : Nat), qF E k = none → Instr.findNow (.int .i64) (.int .i64 k) (ents i E) j = some none
 | [], _, _, _ => rfl
 | e :: E, i, j, h => by
  simp only [qF, List.find?_cons] at h
  split at h
  ·cases h
  ·next hk =>
   simp only [ents, Instr.findNow, same_int]
   have : decide (k = e.k) = false := by
    simp only [decide_eq_false_iff_not] at hk ⊢
    omega
   rw [this]
   exact find_none (i + 1) (j + 1) h
theorem find_some {k : Int} {e : Ent} : ∀ {E : List Ent} (i j : Nat), qF E k = some e → ∃ m, Instr.findNow (.int .i64) (.int .i64 k) (ents i E) j = some (some (m, e.val))
 | [], _, _, h => by cases h
 | a :: E, i, j, h => by
  simp only [qF, List.find?_cons] at h
  split at h
  ·next hk =>
   rw [Option.some.injEq] at h
   subst h
   simp only [ents, Instr.findNow, same_int]
   have : decide (k = a.k) = true := by
    simp only [decide_eq_true_eq] at hk ⊢
    omega
   rw [this]
   exact ⟨j, rfl⟩
  ·next hk =>
   simp only [ents, Instr.findNow, same_int]
   have : decide (k = a.k) = false := by
    simp only [decide_eq_false_iff_not] at hk ⊢
    omega
   rw [this]
   exact find_some (i + 1) (j + 1) h
section
variable {P : Program} {I : zJ} {F : FF} {s : St} {Q : FF → St → Prop} {d : Option Tmp} {ty : TypeId} {pos : String} {af : Array Edge} {g : Option (Nat × Bool)} {W : List Nat} {s0 : St} {L : Hp'} {n : Nat}
theorem op_lookupSome {t kt et : TypeId} {m k : Operand} {r : Nat} {E : List Ent} {x : Int} {e : Ent} {ok : Bool} (hu : P.underlying t = some (.map kt et)) (hk : P.underlying kt = some (.int .i64)) (hm : zn F m = .map (some r)) (hx : zn F k = .int .i64 x) (hg : s.get r = some (x9 E)) (hf : qF E x = some e)
  (h : Q (upd F d (if ok then .tuple ⟨[.agg ⟨.int .i64 e.n :: e.x.cells⟩, .bool true]⟩ else .agg ⟨.int .i64 e.n :: e.x.cells⟩)) s) : OpW P I ⟨d, .lookup t m k ok, ty, pos, af, g⟩ F s Q := by
 obtain ⟨j, hj⟩ := find_some (E := E) 0 0 hf
 refine zS (v := _) (s' := s) ?_ h
 simp only [zr, lookupM, hu, hk, entriesM, hm, hg, x9, hx, keyD, hj, okPair]
 cases ok <;> rfl
def zeroV (P : Program) (t : TypeId) : Option Value :=
 match P.info? t with
 | some i => match i.zero with
  | some z => match plainZ z with
   | true => some z
   | false => none
  | none => none
 | none => none
theorem op_lookupNone {t kt et : TypeId} {m k : Operand} {r : Nat} {E : List Ent} {x : Int} {z : Value} {ok : Bool} (hu : P.underlying t = some (.map kt et)) (hk : P.underlying kt = some (.int .i64)) (hz : zeroV P et = some z) (hm : zn F m = .map (some r)) (hx : zn F k = .int .i64 x) (hg : s.get r = some (x9 E)) (hf : qF E x = none)
  (h : Q (upd F d (if ok then .tuple ⟨[z, .bool false]⟩ else z)) s) : OpW P I ⟨d, .lookup t m k ok, ty, pos, af, g⟩ F s Q := by
 have hj := find_none (E := E) 0 0 hf
 refine zS (v := _) (s' := s) ?_ h
 simp only [zeroV] at hz
 split at hz
 ·next i hi =>
  split at hz
  ·next z' hz' =>
   split at hz
   ·next hp =>
    cases hz
    simp only [zr, lookupM, hu, hk, entriesM, hm, hg, x9, hx, keyD, hj, hi, hz', hp, okPair]
    cases ok <;> rfl
   ·cases hz
  ·cases hz
 ·cases hz
theorem update_new {t kt et : TypeId} {m k v : Operand} {r : Nat} {E : List Ent} {e : Ent} (hu : P.underlying t = some (.map kt et)) (hk : P.underlying kt = some (.int .i64)) (hm : zn F m = .map (some r)) (hx : zn F k = .int .i64 e.k) (hv : zn F v = .agg ⟨.int .i64 e.n :: e.x.cells⟩) (hg : s.get r = some (x9 E)) (hmay : s.may r = true) (hf : qF E e.k = none) :
  zr P (zn F) (.mapUpdate t m k v) s = .ok .skip (s.put r (some (x9 (E ++ [e])))) := by
 have hj := find_none (E := E) 0 0 hf
 simp only [zr, updateM, hu, hm, hk, hg, x9, hx, keyD, hj, setM, hmay, hv, ents_append, List.length_append, List.length_singleton, Nat.zero_add, List.push_toArray, Ent.val]
theorem op_update1 {p0 : Nat × MObj} {t kt et : TypeId} {m k v : Operand} {r : Nat} {E : List Ent} {e : Ent} (H : HL W s0 s (p0 :: (r, x9 E) :: L) n) (hu : P.underlying t = some (.map kt et)) (hk : P.underlying kt = some (.int .i64)) (hm : zn F m = .map (some r)) (hx : zn F k = .int .i64 e.k) (hv : zn F v = .agg ⟨.int .i64 e.n :: e.x.cells⟩) (hf : qF E e.k = none) (hr : s0.next + n ≤ zh)
  (h : ∀ s', HL W s0 s' (p0 :: (r, x9 (E ++ [e])) :: L) n → Q (upd F d undef) s') : OpW P I ⟨d, .mapUpdate t m k v, ty, pos, af, g⟩ F s Q :=
 qk (update_new hu hk hm hx hv H.own1 (H.own (r, x9 E) (by simp)).2.2.1 hf) (h _ (H.put1 _ hr))
theorem op_update2 {p0 p1 : Nat × MObj} {t kt et : TypeId} {m k v : Operand} {r : Nat} {E : List Ent} {e : Ent} (H : HL W s0 s (p0 :: p1 :: (r, x9 E) :: L) n) (hu : P.underlying t = some (.map kt et)) (hk : P.underlying kt = some (.int .i64)) (hm : zn F m = .map (some r)) (hx : zn F k = .int .i64 e.k) (hv : zn F v = .agg ⟨.int .i64 e.n :: e.x.cells⟩) (hf : qF E e.k = none) (hr : s0.next + n ≤ zh)
  (h : ∀ s', HL W s0 s' (p0 :: p1 :: (r, x9 (E ++ [e])) :: L) n → Q (upd F d undef) s') : OpW P I ⟨d, .mapUpdate t m k v, ty, pos, af, g⟩ F s Q :=
 qk (update_new hu hk hm hx hv H.own2 (H.own (r, x9 E) (by simp)).2.2.1 hf) (h _ (H.put2 _ hr))
theorem _root_.Go.M.HL.callW {W W' : List Nat} {s0 s s' : St} {A L L' : Hp'} {n k : Nat} (H : HL W s0 s (A ++ L) n) (H' : HL W' s s' L' k) (hW : ∀ b, b ∈ W' → ∃ o, (b, o) ∈ A) (hA : ∀ p, p ∈ A → p.1 ∈ W') : HL W s0 s' (L' ++ L) (n + k) := by
 have hm := H.most
 have hm' := H'.most
 have hle := H.le
 have hle' := H'.le
 have hd := H.dist
 rw [List.pairwise_append] at hd
 have hnotW : ∀ p, p ∈ L → p.1 ∉ W' := fun p hp hw => by
  obtain ⟨o, ho⟩ := hW _ hw
  exact hd.2.2 (p.1, o) ho p hp rfl
 refine ⟨H'.bar.trans H.bar, H'.prot.trans H.prot, H.wfb, H.wfp, by omega, by omega, fun p hp => ?_, ?_, fun b hb hw => ?_⟩
 ·rcases List.mem_append.mp hp with hp | hp
  ·obtain ⟨h1, h2, h3, h4⟩ := H'.own p hp
   refine ⟨h1, h2, h3, ?_⟩
   rcases h4 with h | h
   ·exact .inl (by omega)
   ·obtain ⟨o, ho⟩ := hW _ h
    exact (H.own (p.1, o) (by simp [ho])).2.2.2
  ·obtain ⟨h1, h2, h3, h4⟩ := H.own p (by simp [hp])
   refine ⟨by rw [H'.kept _ h2 (hnotW p hp)]; exact h1, by omega, ?_, h4⟩
   rw [St.may_eq H'.bar H'.prot]; exact h3
 ·rw [List.pairwise_append]
  refine ⟨H'.dist, hd.2.1, fun a ha c hc => ?_⟩
  have h1 := (H'.own a ha).2.2.2
  have h2 := (H.own c (by simp [hc])).2.1
  rcases h1 with h | h
  ·omega
  ·intro e
   rw [e] at h
   exact hnotW c hc h
 ·rw [H'.kept b (by omega) (fun hw' => ?_)]
  ·exact H.kept b hb hw
  ·obtain ⟨o, ho⟩ := hW _ hw'
   have := (H.own (b, o) (by simp [ho])).2.2.2
   rcases this with h | h
   ·simp only at h; omega
   ·exact hw h
end
end Go.Proofs.YtdejleegamcioaaGreat
namespace Go.Proofs.YtdejleegamcioaaGreat
open Go Go.M
theorem bv_part {W P : BitVec 64} (h : P &&& ~~~ W = 0#64) (hw : W.toNat < 65536) : P.toNat + (W &&& ~~~ P).toNat = W.toNat := by
 have h1 : W &&& P = P := by
  have e : P = (P &&& W) ||| (P &&& ~~~ W) := by
   apply BitVec.eq_of_getLsbD_eq
   intro i hi
   simp only [BitVec.getLsbD_or, BitVec.getLsbD_and, BitVec.getLsbD_not, hi, decide_true, Bool.true_and]
   cases P.getLsbD i <;> cases W.getLsbD i <;> rfl
  rw [h] at e
  rw [BitVec.and_comm]
  conv => rhs; rw [e]
  simp
 have h2 : (W &&& P) + (W &&& ~~~ P) = W := by
  have hz : (W &&& P) &&& (W &&& ~~~ P) = 0#64 := by
   apply BitVec.eq_of_getLsbD_eq
   intro i hi
   simp only [BitVec.getLsbD_and, BitVec.getLsbD_not, hi, decide_true, Bool.true_and, BitVec.getLsbD_zero]
   cases P.getLsbD i <;> cases W.getLsbD i <;> rfl
  rw [BitVec.add_eq_or_of_and_eq_zero _ _ hz]
  apply BitVec.eq_of_getLsbD_eq
  intro i hi
  simp only [BitVec.getLsbD_or, BitVec.getLsbD_and, BitVec.getLsbD_not, hi, decide_true, Bool.true_and]
  cases P.getLsbD i <;> cases W.getLsbD i <;> rfl
 rw [h1] at h2
 have hP : P.toNat ≤ W.toNat := by
  rw [← h1, BitVec.toNat_and]; exact Nat.and_le_left
 have hR : (W &&& ~~~ P).toNat ≤ W.toNat := by rw [BitVec.toNat_and]; exact Nat.and_le_left
 have h3 : (P + (W &&& ~~~ P)).toNat = W.toNat := by rw [h2]
 rw [BitVec.toNat_add, Nat.mod_eq_of_lt (by omega)] at h3
 exact h3
theorem wrap_zero {n : Nat} (h : n < 18446744073709551616) (hz : IntKind.i64.wrap (n : Int) = 0) : n = 0 := by
 unfold IntKind.wrap at hz
 simp only [show IntKind.i64.bits = 64 from rfl, show IntKind.i64.signed = true from rfl, Bool.true_and] at hz
 split at hz <;> omega
theorem yU {w p : Int} (h : y0 w p = true) (hp : p < 9223372036854775808) : 0 < p ∧ p < w ∧ 0 < zB w p ∧ zB w p < w ∧ w < 65536 ∧ zB w p = w - p := by
 simp only [y0, Bool.and_eq_true, decide_eq_true_eq] at h
 obtain ⟨⟨⟨⟨h1, h2⟩, h3⟩, h4⟩, h5⟩ := h
 obtain ⟨a, rfl⟩ := Int.eq_ofNat_of_zero_le (Int.le_of_lt h1)
 obtain ⟨b, rfl⟩ := Int.eq_ofNat_of_zero_le (Int.le_of_lt h3)
 have ha := x7 (a := a) (by omega)
 have hb := x7 (a := b) (by omega)
 have hz : BitVec.ofInt 64 (b : Int) &&& ~~~ BitVec.ofInt 64 (a : Int) = 0#64 := by
  have := wrap_zero (BitVec.isLt _) h4
  exact BitVec.eq_of_toNat_eq (by rw [this]; rfl)
 have hs := bv_part hz (by rw [ha]; omega)
 rw [ha, hb] at hs
 have hr : zB (a : Int) (b : Int) = ((a : Int) - b) := by
  unfold zB bitsI
  simp only
  rw [wrap_in ⟨by omega, by omega⟩]
  omega
 rw [hr]
 omega
section
variable (js : List (Int × Int)) (bad : Int) (may : List Sp)
def xg (v : Int → Int) (S : Int) (acc : Int × Sp) (m : Sp) : Int × Sp :=
 if m.w ≠ S then acc
 else if v m.p < 65536 ∧ v (zB S m.p) < 65536 ∧ 1 + v m.p + v (zB S m.p) < acc.1 then (1 + v m.p + v (zB S m.p), m)
 else acc
def bst : Nat → Int → Int × Sp
 | 0, _ => (0, default)
 | f + 1, S => if y7 S bad 0 js = true then may.foldl (xg (fun x => (bst f x).1) S) (65536, default) else (0, default)
def bb (S : Int) : Int × Sp := bst js bad may (S.toNat + 1) S
def xh : Prop := ∀ m ∈ may, y0 m.w m.p = true ∧ m.p < 9223372036854775808
variable {js bad may}
theorem stepB_congr {v v' : Int → Int} {S : Int} {acc : Int × Sp} {m : Sp} (h : m.w = S → v m.p = v' m.p ∧ v (zB S m.p) = v' (zB S m.p)) : xg v S acc m = xg v' S acc m := by
 unfold xg
 by_cases hw : m.w = S
 ·rw [(h hw).1, (h hw).2]
 ·rw [if_pos hw, if_pos hw]
theorem foldl_congr {v v' : Int → Int} {S : Int} : ∀ {l : List Sp} {acc : Int × Sp}, (∀ m ∈ l, m.w = S → v m.p = v' m.p ∧ v (zB S m.p) = v' (zB S m.p)) → l.foldl (xg v S) acc = l.foldl (xg v' S) acc
 | [], _, _ => rfl
 | m :: l, acc, h => by
  simp only [List.foldl_cons]
  rw [stepB_congr (h m (by simp)), foldl_congr fun x hx => h x (by simp [hx])]
theorem bst_fuel (hm : xh may) : ∀ (f f' : Nat) (S : Int), 0 < S → S.toNat < f → S.toNat < f' → bst js bad may f S = bst js bad may f' S
 | 0, _, S, _, h, _ => by omega
 | _, 0, S, _, _, h => by omega
 | f + 1, f' + 1, S, h0, h1, h2 => by
  simp only [bst]
  split
  ·refine foldl_congr fun m hmm hw => ?_
   obtain ⟨hs, hp⟩ := hm m hmm
   obtain ⟨a1, a2, a3, a4, a5, a6⟩ := yU hs hp
   subst hw
   exact ⟨by rw [bst_fuel hm f f' m.p a1 (by omega) (by omega)], by rw [bst_fuel hm f f' (zB m.w m.p) a3 (by omega) (by omega)]⟩
  ·rfl
theorem bb_eq (hm : xh may) {S : Int} (h0 : 0 < S) : bb js bad may S = if y7 S bad 0 js = true then may.foldl (xg (fun x => (bb js bad may x).1) S) (65536, default) else (0, default) := by
 show bst js bad may (S.toNat + 1) S = _
 rw [bst]
 split
 ·refine foldl_congr fun m hmm hw => ?_
  obtain ⟨hs, hp⟩ := hm m hmm
  obtain ⟨a1, a2, a3, a4, a5, a6⟩ := yU hs hp
  subst hw
  exact ⟨by rw [bst_fuel hm m.w.toNat (m.p.toNat + 1) m.p a1 (by omega) (by omega)]; rfl, by rw [bst_fuel hm m.w.toNat ((zB m.w m.p).toNat + 1) (zB m.w m.p) a3 (by omega) (by omega)]; rfl⟩
 ·rfl
theorem stepB_range {v : Int → Int} {S : Int} {acc : Int × Sp} {m : Sp} (hv : ∀ x, 0 ≤ v x) (h : 0 ≤ acc.1 ∧ acc.1 ≤ 65536) : 0 ≤ (xg v S acc m).1 ∧ (xg v S acc m).1 ≤ 65536 := by
 unfold xg
 have h1 := hv m.p
 have h2 := hv (zB S m.p)
 split
 ·exact h
 ·split
  ·next hc => simp only; omega
  ·exact h
theorem foldl_range {v : Int → Int} {S : Int} (hv : ∀ x, 0 ≤ v x) : ∀ {l : List Sp} {acc : Int × Sp}, (0 ≤ acc.1 ∧ acc.1 ≤ 65536) → 0 ≤ (l.foldl (xg v S) acc).1 ∧ (l.foldl (xg v S) acc).1 ≤ 65536
 | [], _, h => h
 | m :: l, acc, h => by
  simp only [List.foldl_cons]
  exact foldl_range hv (stepB_range hv h)
theorem bst_range : ∀ (f : Nat) (S : Int), 0 ≤ (bst js bad may f S).1 ∧ (bst js bad may f S).1 ≤ 65536
 | 0, _ => by simp [bst]
 | f + 1, S => by
  simp only [bst]
  split
  ·exact foldl_range (fun x => (bst_range f x).1) (by simp)
  ·simp
theorem xD (S : Int) : 0 ≤ (bb js bad may S).1 ∧ (bb js bad may S).1 ≤ 65536 := bst_range _ _
def ys (E : List Ent) : List Int := E.map Ent.k
structure Good (js : List (Int × Int)) (bad : Int) (may : List Sp) (E : List Ent) : Prop where
 nodup : (ys E).Nodup
 val : ∀ e ∈ E, (e.n, e.x) = bb js bad may e.k
 clo : ∀ e ∈ E, y7 e.k bad 0 js = true → ∀ m ∈ may, m.w = e.k → m.p ∈ ys E ∧ zB e.k m.p ∈ ys E
theorem find_of_key {E : List Ent} {k : Int} (h : k ∈ ys E) : ∃ e, qF E k = some e := by
 obtain ⟨e, he, rfl⟩ := List.mem_map.mp h
 unfold qF
 cases hf : E.find? (fun x => decide (x.k = e.k)) with
 | some x => exact ⟨x, rfl⟩
 | none => rw [List.find?_eq_none] at hf; exact absurd (by simp) (hf e he)
theorem of_find {E : List Ent} {k : Int} {e : Ent} (h : qF E k = some e) : e ∈ E ∧ e.k = k := by
 unfold qF at h
 exact ⟨List.mem_of_find?_eq_some h, by simpa using List.find?_some h⟩
theorem not_key {E : List Ent} {k : Int} (h : qF E k = none) : k ∉ ys E := fun hk => by
 obtain ⟨e, he⟩ := find_of_key hk
 rw [h] at he
 cases he
theorem find_none_of {E : List Ent} {k : Int} (h : k ∉ ys E) : qF E k = none := by
 cases hf : qF E k with
 | none => rfl
 | some e => exact absurd (List.mem_map.mpr ⟨e, (of_find hf).1, (of_find hf).2⟩) h
theorem Good.add {E : List Ent} (h : Good js bad may E) {e : Ent} (hn : e.k ∉ ys E) (hv : (e.n, e.x) = bb js bad may e.k) (hc : y7 e.k bad 0 js = true → ∀ m ∈ may, m.w = e.k → m.p ∈ ys E ∧ zB e.k m.p ∈ ys E) : Good js bad may (E ++ [e]) := by
 have hk : ys (E ++ [e]) = ys E ++ [e.k] := by simp [ys]
 refine ⟨?_, fun x hx => ?_, fun x hx hnd m hm hw => ?_⟩
 ·rw [hk, List.nodup_append]
  refine ⟨h.nodup, by simp, fun a ha b hb => ?_⟩
  rw [List.mem_singleton] at hb
  subst hb
  exact fun e => hn (e ▸ ha)
 ·rcases List.mem_append.mp hx with hx | hx
  ·exact h.val x hx
  ·rw [List.mem_singleton] at hx; subst hx; exact hv
 ·rw [hk]
  rcases List.mem_append.mp hx with hx | hx
  ·obtain ⟨h1, h2⟩ := h.clo x hx hnd m hm hw
   exact ⟨List.mem_append_left _ h1, List.mem_append_left _ h2⟩
  ·rw [List.mem_singleton] at hx; subst hx
   obtain ⟨h1, h2⟩ := hc hnd m hm hw
   exact ⟨List.mem_append_left _ h1, List.mem_append_left _ h2⟩
def tbs (t : Int → Nat) (S : Int) : List Sp → Nat
 | [] => 0
 | m :: l => (if m.w = S then t m.p + t (zB S m.p) else 0) + tbs t S l
def tb (may : List Sp) : Nat → Int → Nat
 | 0, _ => 0
 | f + 1, S => 60 + may.length + tbs (tb may f) S may
theorem tbs_append (t : Int → Nat) (S : Int) : ∀ (l r : List Sp), tbs t S (l ++ r) = tbs t S l + tbs t S r
 | [], r => by simp [tbs]
 | m :: l, r => by simp only [List.cons_append, tbs, tbs_append t S l r]; omega
end
end Go.Proofs.YtdejleegamcioaaGreat
namespace Go.Proofs.YtdejleegamcioaaGreat
open Go Go.M
section
variable (js : List (Int × Int)) (bad : Int) (may : List Sp)
inductive Rch (w : Int) : Int → Prop
 | self : Rch w w
 | part {S : Int} {m : Sp} (h : Rch w S) (hn : y7 S bad 0 js = true) (hm : m ∈ may) (hw : m.w = S) : Rch w m.p
 | rest {S : Int} {m : Sp} (h : Rch w S) (hn : y7 S bad 0 js = true) (hm : m ∈ may) (hw : m.w = S) : Rch w (zB S m.p)
variable {js bad may}
theorem Rch.trans {a b c : Int} (h : Rch js bad may a b) (h' : Rch js bad may b c) : Rch js bad may a c := by
 induction h' with
 | self => exact h
 | part _ hn hm hw ih => exact .part ih hn hm hw
 | rest _ hn hm hw ih => exact .rest ih hn hm hw
end
end Go.Proofs.YtdejleegamcioaaGreat
