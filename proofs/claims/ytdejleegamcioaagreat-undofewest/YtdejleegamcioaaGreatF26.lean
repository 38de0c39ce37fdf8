/- The reference of cleanings: what levels show; its Check. -/
import Derived.Test.YtdejleegamcioaaGreatF25
namespace Go.Proofs.YtdejleegamcioaaGreat
open Go Go.M
theorem fb23 : yw Tryz.f23 (Tryz.f23.body.getD .skip) 5 = true := by kernel_rfl
theorem atP_none : ∀ {ks ns : List Int} {x : Int}, x ∉ ks → atP ks ns x = -1
 | [], _, _, _ => by simp [atP]
 | _ :: _, [], _, _ => by simp [atP]
 | k :: ks, n :: ns, x, h => by
  rw [atP, if_neg (fun e => h (by simp [e]))]
  exact atP_none fun hx => h (by simp [hx])
theorem mem_of_atP {ks ns : List Int} {x : Int} (h : 0 ≤ atP ks ns x) : x ∈ ks := Classical.byContradiction fun hx => by rw [atP_none hx] at h; omega
theorem inc_adj {l : List Int} (h : ∀ i, i < l.length → 0 < i → l.getD (i - 1) 0 < l.getD i 0) : Inc l := by
 refine inc_of (fun j hj => ?_) (fun j hj => ?_)
 ·have := h (j + 1) hj (by omega); rw [show j + 1 - 1 = j by omega] at this; omega
 ·have := h (j + 1) hj (by omega); rw [show j + 1 - 1 = j by omega] at this; omega
def RAt (js : List (Int × Int)) (bad : Int) (may : List Sp) (ks ns : List Int) (i : Nat) : Prop := (0 ≤ ns.getD i 0 ∧ ns.getD i 0 ≤ 65536) ∧ (yl (ks.getD i 0) bad 0 js = false → ns.getD i 0 ≤ 0) ∧ (1 ≤ ks.getD i 0 ∧ ks.getD i 0 ≤ 65535) ∧ (0 < i → ks.getD (i - 1) 0 < ks.getD i 0) ∧
 (yl (ks.getD i 0) bad 0 js = true → ∀ m ∈ may, m.w = ks.getD i 0 → 0 ≤ atP ks ns m.p ∧ 0 ≤ atP ks ns (zI m.w m.p) ∧ ns.getD i 0 ≤ 1 + atP ks ns m.p + atP ks ns (zI m.w m.p))
theorem lev_of {js : List (Int × Int)} {bad : Int} {may : List Sp} {ks ns : List Int} (hl : ks.length = ns.length) (h : ∀ i, i < ks.length → RAt js bad may ks ns i) : Lev js bad may ks ns := by
 refine ⟨hl, inc_adj fun i h1 h2 => (h i h1).2.2.2.1 h2, fun k hk => ?_, fun n hn => ?_, fun i hi hn => ?_, fun i hi hn m hm hw => ?_⟩
 ·obtain ⟨i, h1, rfl⟩ := idx_of_mem hk; exact (h i h1).2.2.1
 ·obtain ⟨i, h1, rfl⟩ := idx_of_mem hn; exact (h i (by omega)).1
 ·have h1 := (h i hi).1; have h2 := (h i hi).2.1 hn; omega
 ·obtain ⟨q1, q2, q3⟩ := (h i hi).2.2.2.2 hn m hm hw
  exact ⟨mem_of_atP q1, mem_of_atP q2, q3⟩
theorem Lev.at {js : List (Int × Int)} {bad : Int} {may : List Sp} {ks ns : List Int} (h : Lev js bad may ks ns) {x : Int} (hx : x ∈ ks) : 0 ≤ atP ks ns x ∧ atP ks ns x ≤ 65536 := h.num _ (atP_mem h.inc h.len hx)
set_option maxHeartbeats 4000000 in
set_option maxRecDepth 10000 in
theorem showsR_ok {I : yb} (hI : Plain I) {s : St} (hf : Fine s) {a1 a2 : Option Addr} {c1 c2 : Nat} {ks ns : List Int} {w bad : Int} {vj vm : Value} {js : List (Int × Int)} {may : List Sp} (h1 : Sl s 23 1 (.slice a1 ks.length c1) (ks.map dc)) (h2 : Sl s 3 1 (.slice a2 ns.length c2) (ns.map dc)) (hJ : Sl s 30 2 vj (js.map jc)) (hM : Sl s 62 10 vm (may.map Sp.cells)) (hj : ∀ j ∈ js, joinB j) (hjl : js.length ≤ 16) (hml : may.length ≤ 15) (hkl : ks.length ≤ 100000) (hroom : s.next + (10 + 60 * ks.length) ≤ zo) :
  ∃ v' s', yI Tryz.prog I 23 #[.int .i64 w, vj, .int .i64 bad, vm, .agg ⟨[.slice a1 ks.length c1, .slice a2 ns.length c2]⟩] s v' s' ∧ (∃ (n : Int), v' = .int .i64 n ∧ (Lev js bad may ks ns → n = atP ks ns w) ∧ (¬ Lev js bad may ks ns → n = -1) ∧ HL [] s s' [] (10 + 60 * ks.length)) := by
 have H := hf.hl
 obtain ⟨ja, jn, jcp, rfl, hjn⟩ := hJ.isSlice
 rw [List.length_map] at hjn
 subst hjn
 obtain ⟨ma, mn, mcp, rfl, hmn⟩ := hM.isSlice
 rw [List.length_map] at hmn
 subst hmn
 refine yc 5 (hI 23 (by decide) (by decide)) Tryz.func23 rfl fb23 rfl ?_
 refine ze (za rfl (yX H rfl (by omega) (fun b9 s1 H => ?_)))
 refine za rfl (zh (zb (zx (ze (za rfl (zg xo rfl (za rfl (zl qe rfl H.own0 rfl (za rfl (z7 un31 rfl rfl rfl (za rfl (zg xf rfl (za rfl (zl yW rfl H.own0 rfl (za rfl (z7 xE rfl rfl rfl (za rfl (yM rfl rfl (fun h => ?_) (fun h => ?_)))))))))))))))))))
 ·refine zb (zq rfl (ze (za rfl (zh (zb (zu (zn (zp (zQ (⟨-1, rfl, (fun hv => ?_), (fun _ => rfl), (H.sub (List.nil_sublist _)).up (by omega)⟩))))))))))
  exfalso
  have := hv.len
  omega
 refine zb (zv rfl (zD (zj (zx ?_))))
 have hln : ks.length = ns.length := by omega
 refine ze (za rfl (zh (zb (zL (yB (fun k F s1 => ∃ (G : FF) (i : Nat), F = lay G [(0, .int .i64 w), (1, .slice ja js.length jcp), (2, .int .i64 bad), (3, .slice ma may.length mcp), (9, ptr b9), (11, .int .i64 (i : Int))] ∧ HL [] s s1 [(b9, .cells [.slice a1 ks.length c1, .slice a2 ns.length c2] 40)] (1 + 60 * i) ∧ i ≤ ks.length ∧ k = ks.length - i ∧ (∀ j, j < i → RAt js bad may ks ns j)) ?_ ks.length _ _ ?_)))))
 rotate_left
 ·exact ⟨_, 0, yf ⟨rfl, rfl, rfl, rfl, rfl, rfl, trivial⟩, H, by omega, by omega, (by intro j hj; omega)⟩
 rintro k F s1 ⟨G, i, rfl, H, hi, rfl, hall⟩
 refine zx (ze (za rfl (zf rfl (za rfl (zg xo rfl (za rfl (zl qe rfl H.own0 rfl (za rfl (z7 un31 rfl rfl rfl (za rfl (yg rfl rfl (fun h => ?_) (fun h => ?_))))))))))))
 ·refine zb (zq rfl (zD (zj (zx (zL (ze (za rfl (zg xo rfl (za rfl (zl qe rfl H.own0 rfl (za rfl (zf rfl ?_))))))))))))
  obtain ⟨e1, oo1, d1, he1, hg1, hb1, hc1⟩ := (h1.kept H).atD (i := (i : Int)) (k := i) rfl (by omega)
  cases he1
  have hl1 : e1 < zo := Nat.lt_of_lt_of_le hb1 (by have hmo := H.most; (try simp only at hmo ⊢); omega)
  refine za rfl (zB qL rfl rfl (by omega) (by omega) (za rfl (zl yx rfl hg1 hc1 (za rfl (zm rfl (za rfl (zf rfl (za rfl (zy rfl fc55 rfl ?_)))))))))
  obtain ⟨_, s9, hr, rfl, hs9⟩ := needsR_ok (x := (ks.getD i 0)) (bad := bad) hI (hJ.kept H) hj hjl
  rw [hs9] at hr
  refine ⟨_, _, hr, ?_⟩
  clear hr
  cases hnd : yl (ks.getD i 0) bad 0 js
  ·refine za rfl (zr rfl (zb (zx (ze (za rfl (zg xf rfl (za rfl (zl yW rfl H.own0 rfl (za rfl (zf rfl ?_))))))))))
   obtain ⟨e2, oo2, d2, he2, hg2, hb2, hc2⟩ := (h2.kept H).atD (i := (i : Int)) (k := i) rfl (by omega)
   cases he2
   refine za rfl (zB xP rfl rfl (by omega) (by omega) (za rfl (zl sh3 rfl hg2 hc2 (za rfl (yg rfl rfl (fun h => ?_) (fun h => ?_))))))
   ·refine za rfl (zi rfl (zc rfl (zc rfl (zc rfl (zc rfl (zc rfl (zc rfl (za rfl (zC rfl (za rfl (zi rfl (zc rfl (zc rfl (zc rfl ?_))))))))))))))
    refine zc rfl (zc rfl (zc rfl (zc rfl (zc rfl (zc rfl (zc rfl (za rfl (zC rfl (zb (zq rfl (ze (za rfl (zh ?_)))))))))))))
    refine zb (zu (zn (zt (zn (zJ (zt (zn (zp (zQ (⟨-1, rfl, (fun hv => ?_), (fun _ => rfl), (H.sub (List.nil_sublist _)).up (by omega)⟩))))))))))
    exfalso
    have hn1 := hv.num (ns.getD i 0) (zR (by omega))
    omega
   refine za rfl (zi rfl (za rfl (zg xf rfl (za rfl (zl yW rfl H.own0 rfl (za rfl (zf rfl (za rfl (zB xP rfl rfl (by omega) (by omega) (za rfl (zl sh3 rfl hg2 hc2 (za rfl (yz rfl rfl (fun h => ?_) (fun h => ?_))))))))))))))
   ·refine za rfl (zw rfl rfl (za rfl (zi rfl (zc rfl (zc rfl (zc rfl (zc rfl (zc rfl (zc rfl (zc rfl (zc rfl (zc rfl (zc rfl ?_)))))))))))))
    refine za rfl (zC rfl (zb (zq rfl (ze (za rfl (zh (zb (zu (zn (zt (zn (zJ (zt ?_)))))))))))))
    refine zn (zp (zQ (⟨-1, rfl, (fun hv => ?_), (fun _ => rfl), (H.sub (List.nil_sublist _)).up (by omega)⟩)))
    exfalso
    have hn1 := hv.num (ns.getD i 0) (zR (by omega))
    omega
   refine za rfl (zw rfl rfl (za rfl (zi rfl (za rfl (zi rfl (za rfl (yC rfl (za rfl (zi rfl (za rfl (zg xf rfl (za rfl (zl yW rfl H.own0 rfl (za rfl (zf rfl (za rfl (zB xP rfl rfl (by omega) (by omega) (za rfl (zl sh3 rfl hg2 hc2 (za rfl (yz rfl rfl (fun h => ?_) (fun h => ?_))))))))))))))))))))))
   ·refine za rfl (zN rfl rfl (za rfl (zw rfl rfl (zb (zq rfl (ze (za rfl (zh (zb (zu (zn (zt (zn (zJ ?_))))))))))))))
    refine zt (zn (zp (zQ (⟨-1, rfl, (fun hv => ?_), (fun _ => rfl), (H.sub (List.nil_sublist _)).up (by omega)⟩))))
    exfalso
    have hn1 := hv.num (ns.getD i 0) (zR (by omega))
    (have := hv.none i (by omega) hnd; omega)
   refine za rfl (zN rfl rfl (za rfl (zw rfl rfl (zb (zv rfl (zD (zj (zx ?_))))))))
   have hn2 : 0 ≤ ns.getD i 0 ∧ ns.getD i 0 ≤ 65536 := by omega
   have hn0 : yl (ks.getD i 0) bad 0 js = false → ns.getD i 0 ≤ 0 := fun hf => by first | omega | (rw [hnd] at hf; cases hf)
   refine yy [⟨0, 0, .light, []⟩, ⟨1, 1, .light, []⟩, ⟨2, 0, .light, [1]⟩, ⟨3, 7, .light, []⟩, ⟨4, 15, .light, []⟩, ⟨5, 31, .light, []⟩, ⟨6, 63, .light, []⟩, ⟨7, 127, .light, []⟩, ⟨8, 255, .light, []⟩, ⟨9, 127, .light, [8]⟩, ⟨10, 1023, .light, []⟩, ⟨11, 2047, .light, []⟩, ⟨12, 4095, .light, []⟩, ⟨13, 8191, .light, []⟩, ⟨14, 16383, .light, []⟩, ⟨15, 32767, .light, []⟩, ⟨16, 65535, .light, []⟩, ⟨17, 131071, .light, []⟩, ⟨18, 262143, .light, [24, 29]⟩, ⟨19, 524287, .light, [24, 29]⟩, ⟨20, 262143, .light, [19, 24, 29]⟩, ⟨21, 2097151, .light, [24, 29]⟩, ⟨22, 4194303, .light, [24, 29]⟩, ⟨23, 262143, .light, [19, 22]⟩, ⟨24, 8650751, .light, [19, 22]⟩, ⟨25, 262143, .light, [19, 22, 24]⟩, ⟨26, 33816575, .light, [19, 22, 24]⟩, ⟨27, 100925439, .whole, [19, 22, 24]⟩, ⟨28, 260308991, .light, [19, 22]⟩, ⟨29, 528744447, .light, [19, 22]⟩, ⟨30, 1073741823, .light, []⟩, ⟨31, 2147483647, .light, []⟩, ⟨32, 4294967295, .light, []⟩] (by kernel_rfl) (by kernel_rfl) ?_
   obtain ⟨e1, oo1, d1, he1, hg1, hb1, hc1⟩ := (h1.kept H).atD (i := (i : Int)) (k := i) rfl (by omega)
   cases he1
   have hl1 : e1 < zo := Nat.lt_of_lt_of_le hb1 (by have hmo := H.most; (try simp only at hmo ⊢); omega)
   refine zd rfl rfl (zg xo rfl ⟨rfl, (zG rfl rfl qe rfl H.own0 (by exact H.lim0 (by omega)) rfl (zd rfl rfl (zf rfl ⟨rfl, (zd rfl rfl (zB qL rfl rfl (by omega) (by omega) ⟨rfl, (zG rfl rfl yx rfl hg1 hl1 hc1 (zd rfl rfl (yg rfl rfl (fun h => ⟨rfl, ?_⟩) (fun h => ⟨rfl, ?_⟩))))⟩))⟩)))⟩)
   ·refine zd rfl rfl (zi rfl ⟨rfl, (zA rfl rfl (zA rfl rfl (zA rfl rfl (zA rfl rfl (zA rfl rfl (zA rfl rfl (zd rfl rfl (zC rfl ⟨rfl, (zd rfl rfl (zi rfl ⟨rfl, (zA rfl rfl (zA rfl rfl (zA rfl rfl ?_)))⟩))⟩))))))))⟩)
    refine zA rfl rfl (zA rfl rfl (zA rfl rfl (zA rfl rfl (zA rfl rfl (zA rfl rfl (zA rfl rfl (zA rfl rfl (zA rfl rfl (zA rfl rfl (zA rfl rfl (zA rfl rfl ?_)))))))))))
    refine zA rfl rfl (zA rfl rfl (zd rfl rfl (zC rfl ⟨rfl, (zV (zq rfl (ze (za rfl (zh (zb (zu (zn (zt (zn ?_))))))))))⟩)))
    refine zJ (zt (zn (zp (zQ (⟨-1, rfl, (fun hv => ?_), (fun _ => rfl), (H.sub (List.nil_sublist _)).up (by omega)⟩)))))
    exfalso
    have hs1 := hv.set (ks.getD i 0) (zR (by omega))
    first
     | omega
     | (have hs2 := (xx hv.inc).1 (i - 1) (by omega); have hs3 := (xx hv.inc).2 (i - 1) (by omega); rw [show i - 1 + 1 = i by omega] at hs2 hs3; omega)
   refine zd rfl rfl (zi rfl ⟨rfl, (zd rfl rfl (zg xo rfl ⟨rfl, (zG rfl rfl qe rfl H.own0 (by exact H.lim0 (by omega)) rfl (zd rfl rfl (zf rfl ⟨rfl, (zd rfl rfl (zB qL rfl rfl (by omega) (by omega) ⟨rfl, (zG rfl rfl yx rfl hg1 hl1 hc1 (zd rfl rfl (yz rfl rfl (fun h => ⟨rfl, ?_⟩) (fun h => ⟨rfl, ?_⟩))))⟩))⟩)))⟩))⟩)
   ·refine zd rfl rfl (zw rfl rfl ⟨rfl, (zd rfl rfl (zi rfl ⟨rfl, (zA rfl rfl (zA rfl rfl (zA rfl rfl (zA rfl rfl (zA rfl rfl (zA rfl rfl (zA rfl rfl (zA rfl rfl (zA rfl rfl (zA rfl rfl ?_))))))))))⟩))⟩)
    refine zA rfl rfl (zA rfl rfl (zA rfl rfl (zA rfl rfl (zA rfl rfl (zA rfl rfl (zA rfl rfl (zd rfl rfl (zC rfl ⟨rfl, (zV (zq rfl (ze (za rfl (zh ?_)))))⟩))))))))
    refine zb (zu (zn (zt (zn (zJ (zt (zn (zp (zQ (⟨-1, rfl, (fun hv => ?_), (fun _ => rfl), (H.sub (List.nil_sublist _)).up (by omega)⟩))))))))))
    exfalso
    have hs1 := hv.set (ks.getD i 0) (zR (by omega))
    first
     | omega
     | (have hs2 := (xx hv.inc).1 (i - 1) (by omega); have hs3 := (xx hv.inc).2 (i - 1) (by omega); rw [show i - 1 + 1 = i by omega] at hs2 hs3; omega)
   refine zd rfl rfl (zw rfl rfl ⟨rfl, (zd rfl rfl (zi rfl ⟨rfl, (zd rfl rfl (zf rfl ⟨rfl, (zd rfl rfl (yz rfl rfl (fun h => ⟨rfl, ?_⟩) (fun h => ⟨rfl, ?_⟩)))⟩))⟩))⟩)
   ·refine zd rfl rfl (zi rfl ⟨rfl, (zd rfl rfl (zg xo rfl ⟨rfl, (zG rfl rfl qe rfl H.own0 (by exact H.lim0 (by omega)) rfl (zd rfl rfl (zf rfl ⟨rfl, (zd rfl rfl (zB qL rfl rfl (by omega) (by omega) ⟨rfl, (zG rfl rfl yx rfl hg1 hl1 hc1 (zd rfl rfl (zg xo rfl ⟨rfl, (zG rfl rfl qe rfl H.own0 (by exact H.lim0 (by omega)) rfl (zd rfl rfl (zf rfl ⟨rfl, (zd rfl rfl (xm rfl rfl (by unfold zS; omega) ⟨rfl, (yn rfl rfl (op_max rfl rfl rfl ?_))⟩))⟩)))⟩)))⟩))⟩)))⟩))⟩)
    rw [show max ((i : Int) - 1) 0 = ((i - 1 : Nat) : Int) by omega]
    obtain ⟨_, _, d1b, he1b, hg1b, hb1b, hc1b⟩ := (h1.kept H).atD (i := ((i - 1 : Nat) : Int)) (k := i - 1) rfl (by omega)
    cases he1b
    refine zd rfl rfl (zB qL rfl rfl (by omega) (by omega) ⟨rfl, (zG rfl rfl yx rfl hg1b hl1 hc1b (zd rfl rfl (op_leq rfl rfl (fun h => ⟨rfl, ?_⟩) (fun h => ⟨rfl, ?_⟩))))⟩)
    ·refine zd rfl rfl (zN rfl rfl ⟨rfl, (zd rfl rfl (zw rfl rfl ⟨rfl, (zV (zq rfl (ze (za rfl (zh (zb (zu (zn (zt (zn (zJ ?_)))))))))))⟩))⟩)
     refine zt (zn (zp (zQ (⟨-1, rfl, (fun hv => ?_), (fun _ => rfl), (H.sub (List.nil_sublist _)).up (by omega)⟩))))
     exfalso
     have hs1 := hv.set (ks.getD i 0) (zR (by omega))
     first
      | omega
      | (have hs2 := (xx hv.inc).1 (i - 1) (by omega); have hs3 := (xx hv.inc).2 (i - 1) (by omega); rw [show i - 1 + 1 = i by omega] at hs2 hs3; omega)
    refine zd rfl rfl (zN rfl rfl ⟨rfl, (zd rfl rfl (zw rfl rfl ⟨rfl, (zV (zv rfl (zD (zj ?_))))⟩))⟩)
    have hk2 : 1 ≤ (ks.getD i 0) ∧ (ks.getD i 0) ≤ 65535 := by omega
    have hk3 : 0 < i → ks.getD (i - 1) 0 < (ks.getD i 0) := fun hi0 => by omega
    obtain ⟨N1, hN1⟩ : ∃ N1, N1 = 1 + 60 * i := ⟨_, rfl⟩
    rw [← hN1] at H
    refine ze (za rfl (zh (zb (zL (yB (fun k F s1 => ∃ (G : FF) (q : Nat) (nb : Bool), F = lay G [(0, .int .i64 w), (1, .slice ja js.length jcp), (2, .int .i64 bad), (3, .slice ma may.length mcp), (9, ptr b9), (11, .int .i64 (i : Int)), (12, .bool nb), (13, .int .i64 (q : Int))] ∧ HL [] s s1 [(b9, .cells [.slice (some ⟨e1, oo1, none⟩) ks.length c1, .slice (some ⟨e2, oo2, none⟩) ns.length c2] 40)] (N1 + 3 * q) ∧ nb = yl (ks.getD i 0) bad 0 js ∧ q ≤ may.length ∧ k = may.length - q ∧ (yl (ks.getD i 0) bad 0 js = true → ∀ m ∈ may.take q, m.w = (ks.getD i 0) → 0 ≤ atP ks ns m.p ∧ 0 ≤ atP ks ns (zI m.w m.p) ∧ ns.getD i 0 ≤ 1 + atP ks ns m.p + atP ks ns (zI m.w m.p))) ?_ may.length _ _ ?_)))))
    rotate_left
    ·exact ⟨_, 0, _, yf ⟨rfl, rfl, rfl, rfl, rfl, rfl, rfl, rfl, trivial⟩, H, hnd.symm, by omega, by omega, (by intro _ m hmm; simp at hmm)⟩
    rintro k F s1 ⟨G, q, nb, rfl, H, hnb, hq, rfl, hlow⟩
    refine zx ?_
    cases nb
    ·refine ze (za rfl (zf rfl (za rfl (zm rfl (za rfl (z7 qF rfl rfl rfl (za rfl (yg rfl rfl (fun h => ?_) (fun h => ?_)))))))))
     ·refine za rfl (zi rfl (za rfl (zi rfl (za rfl (zN rfl rfl (zb (zv rfl (yi (zU (ye (z8 (zP (zj (zF ?_))))))))))))))
      refine za rfl (zf rfl (za rfl (zZ rfl rfl (by unfold zS; omega) (za rfl (zk rfl (zb (zO (⟨ks.length - (i + 1), by omega, _, i + 1, yf ⟨rfl, rfl, rfl, rfl, rfl, rfl, trivial⟩, H.up (by omega), by omega, rfl, ?_⟩))))))))
      intro j hj
      by_cases hj2 : j < i
      ·exact hall j hj2
      ·obtain rfl : j = i := by omega
       refine ⟨hn2, hn0, hk2, hk3, fun hnt => ?_⟩
       first
        | (rw [← hnb] at hnt; cases hnt; done)
        | (have hlw := hlow hnt; rw [List.take_of_length_le (by omega)] at hlw; exact hlw)
     refine za rfl (zi rfl (zc rfl (za rfl (zY rfl (zb (zv rfl (yi (zU (ye (z8 (zP (zj (zF ?_)))))))))))))
     refine za rfl (zf rfl (za rfl (zZ rfl rfl (by unfold zS; omega) (za rfl (zk rfl (zb (zO (⟨ks.length - (i + 1), by omega, _, i + 1, yf ⟨rfl, rfl, rfl, rfl, rfl, rfl, trivial⟩, H.up (by omega), by omega, rfl, ?_⟩))))))))
     intro j hj
     by_cases hj2 : j < i
     ·exact hall j hj2
     ·obtain rfl : j = i := by omega
      refine ⟨hn2, hn0, hk2, hk3, fun hnt => ?_⟩
      first
       | (rw [← hnb] at hnt; cases hnt; done)
       | (have hlw := hlow hnt; rw [List.take_of_length_le (by omega)] at hlw; exact hlw)
    refine ze (za rfl (zf rfl (za rfl (zm rfl (za rfl (z7 qF rfl rfl rfl (za rfl (yg rfl rfl (fun h => ?_) (fun h => ?_)))))))))
    ·refine za rfl (zi rfl (za rfl (zi rfl (za rfl (zN rfl rfl (zb (zq rfl (zD (zj (zx (zL (zx (yy [⟨0, 0, .light, [6, 9]⟩, ⟨1, 0, .light, [6, 9]⟩, ⟨2, 3, .light, [6, 9]⟩, ⟨3, 7, .light, [6, 9]⟩, ⟨4, 15, .light, [6, 9]⟩, ⟨5, 0, .light, [4]⟩, ⟨6, 32, .light, [4]⟩, ⟨7, 0, .light, [4, 6]⟩, ⟨8, 224, .light, [4]⟩, ⟨9, 480, .light, [4]⟩, ⟨10, 1023, .light, []⟩] (by kernel_rfl) (by kernel_rfl) ?_)))))))))))))
     obtain ⟨em, oom, cm0, hem, hgm0, hbm, hcm0⟩ := (hM.kept H).atS (i := (q : Int)) (k := q) rfl (by omega)
     cases hem
     obtain ⟨cm, hgm, hcw, hcp⟩ := (hM.kept H).gotS (k := q) (by omega)
     have hlm : em < zo := Nat.lt_of_lt_of_le hbm (by have hmo := H.most; (try simp only at hmo ⊢); omega)
     obtain ⟨e1, oo1, d1, he1, hg1, hb1, hc1⟩ := (h1.kept H).atD (i := (i : Int)) (k := i) rfl (by omega)
     cases he1
     have hl1 : e1 < zo := Nat.lt_of_lt_of_le hb1 (by have hmo := H.most; (try simp only at hmo ⊢); omega)
     refine zd rfl rfl (zm rfl ⟨rfl, (zd rfl rfl (zf rfl ⟨rfl, (zd rfl rfl (zB el25 rfl rfl (by omega) (by omega) ⟨rfl, (zd rfl rfl (zg xT rfl ⟨rfl, (zG rfl rfl yx rfl hgm hlm hcw (zd rfl rfl (zg xo rfl ⟨rfl, (zG rfl rfl qe rfl H.own0 (by exact H.lim0 (by omega)) rfl (zd rfl rfl (zf rfl ⟨rfl, (zd rfl rfl (zB qL rfl rfl (by omega) (by omega) ⟨rfl, (zG rfl rfl yx rfl hg1 hl1 hc1 (zd rfl rfl (yM rfl rfl (fun h => ⟨rfl, ?_⟩) (fun h => ⟨rfl, ?_⟩))))⟩))⟩)))⟩)))⟩))⟩))⟩))⟩)
     ·refine zV (zq rfl (yi (zU (z8 (zj (zF (za rfl (zf rfl (za rfl (zZ rfl rfl (by unfold zS; omega) (za rfl (zk rfl (zb (zO ?_))))))))))))))
      refine ⟨may.length - (q + 1), by omega, _, q + 1, true, yf ⟨rfl, rfl, rfl, rfl, rfl, rfl, rfl, rfl, trivial⟩, H.up (by omega), hnb, by omega, rfl, fun hnt => ?_⟩
      intro m hmm hmw
      rcases yu (show q < may.length by omega) hmm with hmm | hmm
      ·exact hlow hnt m hmm hmw
      ·subst hmm; exact absurd hmw h
     refine zV (zv rfl (zD (zj ?_)))
     have hxS : (may.getD q default).w = (ks.getD i 0) := by simpa using h
     refine yy [⟨0, 0, .light, [5]⟩, ⟨1, 0, .light, [0]⟩, ⟨2, 0, .light, [0]⟩, ⟨3, 6, .light, [0]⟩, ⟨4, 14, .light, [0]⟩, ⟨5, 30, .light, [0]⟩, ⟨6, 63, .whole, []⟩, ⟨7, 127, .light, []⟩] (by kernel_rfl) (by kernel_rfl) ?_
     obtain ⟨em, oom, cm0, hem, hgm0, hbm, hcm0⟩ := (hM.kept H).atS (i := (q : Int)) (k := q) rfl (by omega)
     cases hem
     obtain ⟨cm, hgm, hcw, hcp⟩ := (hM.kept H).gotS (k := q) (by omega)
     have hlm : em < zo := Nat.lt_of_lt_of_le hbm (by have hmo := H.most; (try simp only at hmo ⊢); omega)
     refine yV rfl rfl sh40 rfl H.own0 (by exact H.lim0 (by omega)) rfl (zd rfl rfl (zm rfl ⟨rfl, (zd rfl rfl (zf rfl ⟨rfl, (zd rfl rfl (zB el25 rfl rfl (by omega) (by omega) ⟨rfl, (zd rfl rfl (zg y9 rfl ⟨rfl, (zG rfl rfl yx rfl hgm hlm hcp (yn rfl rfl (zy rfl fc46 rfl ?_)))⟩))⟩))⟩))⟩))
     obtain ⟨_, s9, hr, rfl, Hc⟩ := atR_ok (x := (may.getD q default).p) hI H.fine (h1.kept H) (h2.kept H) (by omega) (by have hmo := H.most; (try simp only at hmo); show _ + _ ≤ _; (try simp only); omega)
     refine ⟨_, _, hr, ?_⟩
     clear hr
     have H := H.call0 (HL.wider H.fine (Nat.le_refl _) (fun _ h => h) Hc)
     clear Hc
     refine zd rfl rfl (zk rfl ⟨rfl, (zV (yy [⟨0, 0, .light, [4]⟩, ⟨1, 0, .light, [0]⟩, ⟨2, 0, .light, [0]⟩, ⟨3, 6, .light, [0]⟩, ⟨4, 14, .light, [0]⟩, ⟨5, 30, .whole, [0]⟩, ⟨6, 63, .whole, []⟩, ⟨7, 127, .light, []⟩] (by kernel_rfl) (by kernel_rfl) ?_))⟩)
     obtain ⟨em, oom, cm0, hem, hgm0, hbm, hcm0⟩ := (hM.kept H).atS (i := (q : Int)) (k := q) rfl (by omega)
     cases hem
     obtain ⟨cm, hgm, hcw, hcp⟩ := (hM.kept H).gotS (k := q) (by omega)
     have hlm : em < zo := Nat.lt_of_lt_of_le hbm (by have hmo := H.most; (try simp only at hmo ⊢); omega)
     refine yV rfl rfl sh40 rfl H.own0 (by exact H.lim0 (by omega)) rfl (zd rfl rfl (zm rfl ⟨rfl, (zd rfl rfl (zf rfl ⟨rfl, (zd rfl rfl (zB el25 rfl rfl (by omega) (by omega) ⟨rfl, (yV rfl rfl sh62 rfl hgm0 hlm hcm0 (yn rfl rfl (zy rfl fc36 rfl ?_)))⟩))⟩))⟩))
     obtain ⟨_, s9, hr, rfl, Hc⟩ := rest_ok (x := (may.getD q default)) hI (Fine.narrow (X := [b9]) H.fine (by intro p hp; rw [List.mem_singleton] at hp; rw [hp]; exact H.lt0)) (by have hmo := H.most; (try simp only at hmo); show _ + _ ≤ _; (try simp only); omega)
     refine ⟨_, _, hr, ?_⟩
     clear hr
     have H := H.call0 (HL.wider H.fine (Nat.le_refl _) (fun _ h => List.mem_append_right _ h) Hc)
     clear Hc
     refine yn rfl rfl (zy rfl fc46 rfl ?_)
     obtain ⟨_, s9, hr, rfl, Hc⟩ := atR_ok (x := (zI (may.getD q default).w (may.getD q default).p)) hI H.fine (h1.kept H) (h2.kept H) (by omega) (by have hmo := H.most; (try simp only at hmo); show _ + _ ≤ _; (try simp only); omega)
     refine ⟨_, _, hr, ?_⟩
     clear hr
     have H := H.call0 (HL.wider H.fine (Nat.le_refl _) (fun _ h => h) Hc)
     clear Hc
     refine zd rfl rfl (zk rfl ⟨rfl, (zV (ze (za rfl (zf rfl (za rfl (yg rfl rfl (fun h => ?_) (fun h => ?_)))))))⟩)
     ·refine za rfl (zi rfl (zc rfl (zc rfl (za rfl (zC rfl (za rfl (zi rfl (zc rfl (zc rfl (za rfl (zC rfl (za rfl (zi rfl (zc rfl (zc rfl (za rfl (zC rfl ?_)))))))))))))))))
      refine za rfl (zi rfl (zc rfl (zc rfl (zc rfl (zc rfl (zc rfl (zc rfl (zc rfl (zc rfl (zc rfl (zc rfl (za rfl (zC rfl ?_)))))))))))))
      refine zb (zq rfl (ze (za rfl (zh (zb (zu (zt (zn (zJ (zt (zt (zn ?_))))))))))))
      refine zJ (zt (zn (zp (zQ (⟨-1, rfl, (fun hv => ?_), (fun _ => rfl), (H.sub (List.nil_sublist _)).up (by omega)⟩)))))
      exfalso
      obtain ⟨q1, q2, q3⟩ := hv.low i (by omega) hnb.symm (may.getD q default) (zR (by omega)) hxS
      have r1 := hv.at q1
      have r2 := hv.at q2
      omega
     refine za rfl (zi rfl (za rfl (zf rfl (za rfl (yg rfl rfl (fun h => ?_) (fun h => ?_))))))
     ·refine za rfl (zw rfl rfl (za rfl (zi rfl (zc rfl (zc rfl (za rfl (zC rfl (za rfl (zi rfl (zc rfl (zc rfl (za rfl (zC rfl (za rfl (zi rfl (zc rfl (zc rfl ?_)))))))))))))))))
      refine zc rfl (zc rfl (zc rfl (zc rfl (zc rfl (zc rfl (zc rfl (zc rfl (za rfl (zC rfl (zb (zq rfl (ze ?_))))))))))))
      refine za rfl (zh (zb (zu (zt (zn (zJ (zt (zt (zn (zJ (zt (zn ?_))))))))))))
      refine zp (zQ (⟨-1, rfl, (fun hv => ?_), (fun _ => rfl), (H.sub (List.nil_sublist _)).up (by omega)⟩))
      exfalso
      obtain ⟨q1, q2, q3⟩ := hv.low i (by omega) hnb.symm (may.getD q default) (zR (by omega)) hxS
      have r1 := hv.at q1
      have r2 := hv.at q2
      omega
     refine za rfl (zw rfl rfl (za rfl (zi rfl (za rfl (zf rfl (za rfl (yz rfl rfl (fun h => ?_) (fun h => ?_))))))))
     ·refine za rfl (zw rfl rfl (za rfl (zi rfl (zc rfl (zc rfl (za rfl (zC rfl (za rfl (zi rfl (zc rfl (zc rfl (zc rfl (zc rfl (zc rfl (zc rfl ?_)))))))))))))))
      refine zc rfl (zc rfl (zc rfl (zc rfl (za rfl (zC rfl (zb (zq rfl (ze (za rfl (zh (zb (zu (zt ?_)))))))))))))
      refine zn (zJ (zt (zt (zn (zJ (zt (zn (zp (zQ (⟨-1, rfl, (fun hv => ?_), (fun _ => rfl), (H.sub (List.nil_sublist _)).up (by omega)⟩))))))))))
      exfalso
      obtain ⟨q1, q2, q3⟩ := hv.low i (by omega) hnb.symm (may.getD q default) (zR (by omega)) hxS
      have r1 := hv.at q1
      have r2 := hv.at q2
      omega
     refine za rfl (zw rfl rfl (za rfl (zi rfl (za rfl (zf rfl (za rfl (yz rfl rfl (fun h => ?_) (fun h => ?_))))))))
     ·refine za rfl (zw rfl rfl (za rfl (zi rfl (zc rfl (zc rfl (zc rfl (zc rfl (zc rfl (zc rfl (zc rfl (zc rfl (zc rfl (zc rfl ?_)))))))))))))
      refine za rfl (zC rfl (zb (zq rfl (ze (za rfl (zh (zb (zu (zt (zn (zJ (zt (zt ?_)))))))))))))
      refine zn (zJ (zt (zn (zp (zQ (⟨-1, rfl, (fun hv => ?_), (fun _ => rfl), (H.sub (List.nil_sublist _)).up (by omega)⟩))))))
      exfalso
      obtain ⟨q1, q2, q3⟩ := hv.low i (by omega) hnb.symm (may.getD q default) (zR (by omega)) hxS
      have r1 := hv.at q1
      have r2 := hv.at q2
      omega
     refine za rfl (zw rfl rfl (za rfl (zi rfl (za rfl (zg xf rfl (za rfl (zl yW rfl H.own0 rfl (za rfl (zf rfl ?_)))))))))
     obtain ⟨e2, oo2, d2, he2, hg2, hb2, hc2⟩ := (h2.kept H).atD (i := (i : Int)) (k := i) rfl (by omega)
     cases he2
     refine za rfl (zB xP rfl rfl (by omega) (by omega) (za rfl (zl sh3 rfl hg2 hc2 (za rfl (zf rfl (za rfl (zZ rfl rfl (by unfold zS; omega) (za rfl (zf rfl (za rfl (zZ rfl rfl (by unfold zS; omega) (za rfl (yz rfl rfl (fun h => ?_) (fun h => ?_))))))))))))))
     ·refine za rfl (zw rfl rfl (zb (zq rfl (ze (za rfl (zh (zb (zu (zt (zn (zJ (zt (zt ?_)))))))))))))
      refine zn (zJ (zt (zn (zp (zQ (⟨-1, rfl, (fun hv => ?_), (fun _ => rfl), (H.sub (List.nil_sublist _)).up (by omega)⟩))))))
      exfalso
      obtain ⟨q1, q2, q3⟩ := hv.low i (by omega) hnb.symm (may.getD q default) (zR (by omega)) hxS
      have r1 := hv.at q1
      have r2 := hv.at q2
      omega
     refine za rfl (zw rfl rfl (zb (zv rfl (zD (zP (zj (zF (za rfl (zf rfl (za rfl (zZ rfl rfl (by unfold zS; omega) (za rfl (zk rfl (zb (zO ?_)))))))))))))))
     refine ⟨may.length - (q + 1), by omega, _, q + 1, true, yf ⟨rfl, rfl, rfl, rfl, rfl, rfl, rfl, rfl, trivial⟩, H.up (by omega), hnb, by omega, rfl, fun hnt => ?_⟩
     intro m hmm hmw
     rcases yu (show q < may.length by omega) hmm with hmm | hmm
     ·exact hlow hnt m hmm hmw
     ·subst hmm
      exact ⟨by omega, by omega, by omega⟩
    refine za rfl (zi rfl (zc rfl (za rfl (zY rfl (zb (zv rfl (yi (zU (ye (z8 (zP (zj (zF ?_)))))))))))))
    refine za rfl (zf rfl (za rfl (zZ rfl rfl (by unfold zS; omega) (za rfl (zk rfl (zb (zO (⟨ks.length - (i + 1), by omega, _, i + 1, yf ⟨rfl, rfl, rfl, rfl, rfl, rfl, trivial⟩, H.up (by omega), by omega, rfl, ?_⟩))))))))
    intro j hj
    by_cases hj2 : j < i
    ·exact hall j hj2
    ·obtain rfl : j = i := by omega
     refine ⟨hn2, hn0, hk2, hk3, fun hnt => ?_⟩
     first
      | (rw [← hnb] at hnt; cases hnt; done)
      | (have hlw := hlow hnt; rw [List.take_of_length_le (by omega)] at hlw; exact hlw)
   refine zd rfl rfl (zi rfl ⟨rfl, (zA rfl rfl (zA rfl rfl (zA rfl rfl (zA rfl rfl (zA rfl rfl (zA rfl rfl (zA rfl rfl (zA rfl rfl (zA rfl rfl (zA rfl rfl (zA rfl rfl ?_)))))))))))⟩)
   refine zA rfl rfl (zA rfl rfl (zd rfl rfl (zY rfl ⟨rfl, (zd rfl rfl (zw rfl rfl ⟨rfl, (zV (zv rfl (zD (zj ?_))))⟩))⟩)))
   have hk2 : 1 ≤ (ks.getD i 0) ∧ (ks.getD i 0) ≤ 65535 := by omega
   have hk3 : 0 < i → ks.getD (i - 1) 0 < (ks.getD i 0) := fun hi0 => by omega
   obtain ⟨N1, hN1⟩ : ∃ N1, N1 = 1 + 60 * i := ⟨_, rfl⟩
   rw [← hN1] at H
   refine ze (za rfl (zh (zb (zL (yB (fun k F s1 => ∃ (G : FF) (q : Nat) (nb : Bool), F = lay G [(0, .int .i64 w), (1, .slice ja js.length jcp), (2, .int .i64 bad), (3, .slice ma may.length mcp), (9, ptr b9), (11, .int .i64 (i : Int)), (12, .bool nb), (13, .int .i64 (q : Int))] ∧ HL [] s s1 [(b9, .cells [.slice (some ⟨e1, oo1, none⟩) ks.length c1, .slice (some ⟨e2, oo2, none⟩) ns.length c2] 40)] (N1 + 3 * q) ∧ nb = yl (ks.getD i 0) bad 0 js ∧ q ≤ may.length ∧ k = may.length - q ∧ (yl (ks.getD i 0) bad 0 js = true → ∀ m ∈ may.take q, m.w = (ks.getD i 0) → 0 ≤ atP ks ns m.p ∧ 0 ≤ atP ks ns (zI m.w m.p) ∧ ns.getD i 0 ≤ 1 + atP ks ns m.p + atP ks ns (zI m.w m.p))) ?_ may.length _ _ ?_)))))
   rotate_left
   ·exact ⟨_, 0, _, yf ⟨rfl, rfl, rfl, rfl, rfl, rfl, rfl, rfl, trivial⟩, H, hnd.symm, by omega, by omega, (by intro _ m hmm; simp at hmm)⟩
   rintro k F s1 ⟨G, q, nb, rfl, H, hnb, hq, rfl, hlow⟩
   refine zx ?_
   cases nb
   ·refine ze (za rfl (zf rfl (za rfl (zm rfl (za rfl (z7 qF rfl rfl rfl (za rfl (yg rfl rfl (fun h => ?_) (fun h => ?_)))))))))
    ·refine za rfl (zi rfl (za rfl (zi rfl (za rfl (zN rfl rfl (zb (zv rfl (yi (zU (ye (z8 (zP (zj (zF ?_))))))))))))))
     refine za rfl (zf rfl (za rfl (zZ rfl rfl (by unfold zS; omega) (za rfl (zk rfl (zb (zO (⟨ks.length - (i + 1), by omega, _, i + 1, yf ⟨rfl, rfl, rfl, rfl, rfl, rfl, trivial⟩, H.up (by omega), by omega, rfl, ?_⟩))))))))
     intro j hj
     by_cases hj2 : j < i
     ·exact hall j hj2
     ·obtain rfl : j = i := by omega
      refine ⟨hn2, hn0, hk2, hk3, fun hnt => ?_⟩
      first
       | (rw [← hnb] at hnt; cases hnt; done)
       | (have hlw := hlow hnt; rw [List.take_of_length_le (by omega)] at hlw; exact hlw)
    refine za rfl (zi rfl (zc rfl (za rfl (zY rfl (zb (zv rfl (yi (zU (ye (z8 (zP (zj (zF ?_)))))))))))))
    refine za rfl (zf rfl (za rfl (zZ rfl rfl (by unfold zS; omega) (za rfl (zk rfl (zb (zO (⟨ks.length - (i + 1), by omega, _, i + 1, yf ⟨rfl, rfl, rfl, rfl, rfl, rfl, trivial⟩, H.up (by omega), by omega, rfl, ?_⟩))))))))
    intro j hj
    by_cases hj2 : j < i
    ·exact hall j hj2
    ·obtain rfl : j = i := by omega
     refine ⟨hn2, hn0, hk2, hk3, fun hnt => ?_⟩
     first
      | (rw [← hnb] at hnt; cases hnt; done)
      | (have hlw := hlow hnt; rw [List.take_of_length_le (by omega)] at hlw; exact hlw)
   refine ze (za rfl (zf rfl (za rfl (zm rfl (za rfl (z7 qF rfl rfl rfl (za rfl (yg rfl rfl (fun h => ?_) (fun h => ?_)))))))))
   ·refine za rfl (zi rfl (za rfl (zi rfl (za rfl (zN rfl rfl (zb (zq rfl (zD (zj (zx (zL (zx (yy [⟨0, 0, .light, [6, 9]⟩, ⟨1, 0, .light, [6, 9]⟩, ⟨2, 3, .light, [6, 9]⟩, ⟨3, 7, .light, [6, 9]⟩, ⟨4, 15, .light, [6, 9]⟩, ⟨5, 0, .light, [4]⟩, ⟨6, 32, .light, [4]⟩, ⟨7, 0, .light, [4, 6]⟩, ⟨8, 224, .light, [4]⟩, ⟨9, 480, .light, [4]⟩, ⟨10, 1023, .light, []⟩] (by kernel_rfl) (by kernel_rfl) ?_)))))))))))))
    obtain ⟨em, oom, cm0, hem, hgm0, hbm, hcm0⟩ := (hM.kept H).atS (i := (q : Int)) (k := q) rfl (by omega)
    cases hem
    obtain ⟨cm, hgm, hcw, hcp⟩ := (hM.kept H).gotS (k := q) (by omega)
    have hlm : em < zo := Nat.lt_of_lt_of_le hbm (by have hmo := H.most; (try simp only at hmo ⊢); omega)
    obtain ⟨e1, oo1, d1, he1, hg1, hb1, hc1⟩ := (h1.kept H).atD (i := (i : Int)) (k := i) rfl (by omega)
    cases he1
    have hl1 : e1 < zo := Nat.lt_of_lt_of_le hb1 (by have hmo := H.most; (try simp only at hmo ⊢); omega)
    refine zd rfl rfl (zm rfl ⟨rfl, (zd rfl rfl (zf rfl ⟨rfl, (zd rfl rfl (zB el25 rfl rfl (by omega) (by omega) ⟨rfl, (zd rfl rfl (zg xT rfl ⟨rfl, (zG rfl rfl yx rfl hgm hlm hcw (zd rfl rfl (zg xo rfl ⟨rfl, (zG rfl rfl qe rfl H.own0 (by exact H.lim0 (by omega)) rfl (zd rfl rfl (zf rfl ⟨rfl, (zd rfl rfl (zB qL rfl rfl (by omega) (by omega) ⟨rfl, (zG rfl rfl yx rfl hg1 hl1 hc1 (zd rfl rfl (yM rfl rfl (fun h => ⟨rfl, ?_⟩) (fun h => ⟨rfl, ?_⟩))))⟩))⟩)))⟩)))⟩))⟩))⟩))⟩)
    ·refine zV (zq rfl (yi (zU (z8 (zj (zF (za rfl (zf rfl (za rfl (zZ rfl rfl (by unfold zS; omega) (za rfl (zk rfl (zb (zO ?_))))))))))))))
     refine ⟨may.length - (q + 1), by omega, _, q + 1, true, yf ⟨rfl, rfl, rfl, rfl, rfl, rfl, rfl, rfl, trivial⟩, H.up (by omega), hnb, by omega, rfl, fun hnt => ?_⟩
     intro m hmm hmw
     rcases yu (show q < may.length by omega) hmm with hmm | hmm
     ·exact hlow hnt m hmm hmw
     ·subst hmm; exact absurd hmw h
    refine zV (zv rfl (zD (zj ?_)))
    have hxS : (may.getD q default).w = (ks.getD i 0) := by simpa using h
    refine yy [⟨0, 0, .light, [5]⟩, ⟨1, 0, .light, [0]⟩, ⟨2, 0, .light, [0]⟩, ⟨3, 6, .light, [0]⟩, ⟨4, 14, .light, [0]⟩, ⟨5, 30, .light, [0]⟩, ⟨6, 63, .whole, []⟩, ⟨7, 127, .light, []⟩] (by kernel_rfl) (by kernel_rfl) ?_
    obtain ⟨em, oom, cm0, hem, hgm0, hbm, hcm0⟩ := (hM.kept H).atS (i := (q : Int)) (k := q) rfl (by omega)
    cases hem
    obtain ⟨cm, hgm, hcw, hcp⟩ := (hM.kept H).gotS (k := q) (by omega)
    have hlm : em < zo := Nat.lt_of_lt_of_le hbm (by have hmo := H.most; (try simp only at hmo ⊢); omega)
    refine yV rfl rfl sh40 rfl H.own0 (by exact H.lim0 (by omega)) rfl (zd rfl rfl (zm rfl ⟨rfl, (zd rfl rfl (zf rfl ⟨rfl, (zd rfl rfl (zB el25 rfl rfl (by omega) (by omega) ⟨rfl, (zd rfl rfl (zg y9 rfl ⟨rfl, (zG rfl rfl yx rfl hgm hlm hcp (yn rfl rfl (zy rfl fc46 rfl ?_)))⟩))⟩))⟩))⟩))
    obtain ⟨_, s9, hr, rfl, Hc⟩ := atR_ok (x := (may.getD q default).p) hI H.fine (h1.kept H) (h2.kept H) (by omega) (by have hmo := H.most; (try simp only at hmo); show _ + _ ≤ _; (try simp only); omega)
    refine ⟨_, _, hr, ?_⟩
    clear hr
    have H := H.call0 (HL.wider H.fine (Nat.le_refl _) (fun _ h => h) Hc)
    clear Hc
    refine zd rfl rfl (zk rfl ⟨rfl, (zV (yy [⟨0, 0, .light, [4]⟩, ⟨1, 0, .light, [0]⟩, ⟨2, 0, .light, [0]⟩, ⟨3, 6, .light, [0]⟩, ⟨4, 14, .light, [0]⟩, ⟨5, 30, .whole, [0]⟩, ⟨6, 63, .whole, []⟩, ⟨7, 127, .light, []⟩] (by kernel_rfl) (by kernel_rfl) ?_))⟩)
    obtain ⟨em, oom, cm0, hem, hgm0, hbm, hcm0⟩ := (hM.kept H).atS (i := (q : Int)) (k := q) rfl (by omega)
    cases hem
    obtain ⟨cm, hgm, hcw, hcp⟩ := (hM.kept H).gotS (k := q) (by omega)
    have hlm : em < zo := Nat.lt_of_lt_of_le hbm (by have hmo := H.most; (try simp only at hmo ⊢); omega)
    refine yV rfl rfl sh40 rfl H.own0 (by exact H.lim0 (by omega)) rfl (zd rfl rfl (zm rfl ⟨rfl, (zd rfl rfl (zf rfl ⟨rfl, (zd rfl rfl (zB el25 rfl rfl (by omega) (by omega) ⟨rfl, (yV rfl rfl sh62 rfl hgm0 hlm hcm0 (yn rfl rfl (zy rfl fc36 rfl ?_)))⟩))⟩))⟩))
    obtain ⟨_, s9, hr, rfl, Hc⟩ := rest_ok (x := (may.getD q default)) hI (Fine.narrow (X := [b9]) H.fine (by intro p hp; rw [List.mem_singleton] at hp; rw [hp]; exact H.lt0)) (by have hmo := H.most; (try simp only at hmo); show _ + _ ≤ _; (try simp only); omega)
    refine ⟨_, _, hr, ?_⟩
    clear hr
    have H := H.call0 (HL.wider H.fine (Nat.le_refl _) (fun _ h => List.mem_append_right _ h) Hc)
    clear Hc
    refine yn rfl rfl (zy rfl fc46 rfl ?_)
    obtain ⟨_, s9, hr, rfl, Hc⟩ := atR_ok (x := (zI (may.getD q default).w (may.getD q default).p)) hI H.fine (h1.kept H) (h2.kept H) (by omega) (by have hmo := H.most; (try simp only at hmo); show _ + _ ≤ _; (try simp only); omega)
    refine ⟨_, _, hr, ?_⟩
    clear hr
    have H := H.call0 (HL.wider H.fine (Nat.le_refl _) (fun _ h => h) Hc)
    clear Hc
    refine zd rfl rfl (zk rfl ⟨rfl, (zV (ze (za rfl (zf rfl (za rfl (yg rfl rfl (fun h => ?_) (fun h => ?_)))))))⟩)
    ·refine za rfl (zi rfl (zc rfl (zc rfl (za rfl (zC rfl (za rfl (zi rfl (zc rfl (zc rfl (za rfl (zC rfl (za rfl (zi rfl (zc rfl (zc rfl (za rfl (zC rfl ?_)))))))))))))))))
     refine za rfl (zi rfl (zc rfl (zc rfl (zc rfl (zc rfl (zc rfl (zc rfl (zc rfl (zc rfl (zc rfl (zc rfl (za rfl (zC rfl ?_)))))))))))))
     refine zb (zq rfl (ze (za rfl (zh (zb (zu (zt (zn (zJ (zt (zt (zn ?_))))))))))))
     refine zJ (zt (zn (zp (zQ (⟨-1, rfl, (fun hv => ?_), (fun _ => rfl), (H.sub (List.nil_sublist _)).up (by omega)⟩)))))
     exfalso
     obtain ⟨q1, q2, q3⟩ := hv.low i (by omega) hnb.symm (may.getD q default) (zR (by omega)) hxS
     have r1 := hv.at q1
     have r2 := hv.at q2
     omega
    refine za rfl (zi rfl (za rfl (zf rfl (za rfl (yg rfl rfl (fun h => ?_) (fun h => ?_))))))
    ·refine za rfl (zw rfl rfl (za rfl (zi rfl (zc rfl (zc rfl (za rfl (zC rfl (za rfl (zi rfl (zc rfl (zc rfl (za rfl (zC rfl (za rfl (zi rfl (zc rfl (zc rfl ?_)))))))))))))))))
     refine zc rfl (zc rfl (zc rfl (zc rfl (zc rfl (zc rfl (zc rfl (zc rfl (za rfl (zC rfl (zb (zq rfl (ze ?_))))))))))))
     refine za rfl (zh (zb (zu (zt (zn (zJ (zt (zt (zn (zJ (zt (zn ?_))))))))))))
     refine zp (zQ (⟨-1, rfl, (fun hv => ?_), (fun _ => rfl), (H.sub (List.nil_sublist _)).up (by omega)⟩))
     exfalso
     obtain ⟨q1, q2, q3⟩ := hv.low i (by omega) hnb.symm (may.getD q default) (zR (by omega)) hxS
     have r1 := hv.at q1
     have r2 := hv.at q2
     omega
    refine za rfl (zw rfl rfl (za rfl (zi rfl (za rfl (zf rfl (za rfl (yz rfl rfl (fun h => ?_) (fun h => ?_))))))))
    ·refine za rfl (zw rfl rfl (za rfl (zi rfl (zc rfl (zc rfl (za rfl (zC rfl (za rfl (zi rfl (zc rfl (zc rfl (zc rfl (zc rfl (zc rfl (zc rfl ?_)))))))))))))))
     refine zc rfl (zc rfl (zc rfl (zc rfl (za rfl (zC rfl (zb (zq rfl (ze (za rfl (zh (zb (zu (zt ?_)))))))))))))
     refine zn (zJ (zt (zt (zn (zJ (zt (zn (zp (zQ (⟨-1, rfl, (fun hv => ?_), (fun _ => rfl), (H.sub (List.nil_sublist _)).up (by omega)⟩))))))))))
     exfalso
     obtain ⟨q1, q2, q3⟩ := hv.low i (by omega) hnb.symm (may.getD q default) (zR (by omega)) hxS
     have r1 := hv.at q1
     have r2 := hv.at q2
     omega
    refine za rfl (zw rfl rfl (za rfl (zi rfl (za rfl (zf rfl (za rfl (yz rfl rfl (fun h => ?_) (fun h => ?_))))))))
    ·refine za rfl (zw rfl rfl (za rfl (zi rfl (zc rfl (zc rfl (zc rfl (zc rfl (zc rfl (zc rfl (zc rfl (zc rfl (zc rfl (zc rfl ?_)))))))))))))
     refine za rfl (zC rfl (zb (zq rfl (ze (za rfl (zh (zb (zu (zt (zn (zJ (zt (zt ?_)))))))))))))
     refine zn (zJ (zt (zn (zp (zQ (⟨-1, rfl, (fun hv => ?_), (fun _ => rfl), (H.sub (List.nil_sublist _)).up (by omega)⟩))))))
     exfalso
     obtain ⟨q1, q2, q3⟩ := hv.low i (by omega) hnb.symm (may.getD q default) (zR (by omega)) hxS
     have r1 := hv.at q1
     have r2 := hv.at q2
     omega
    refine za rfl (zw rfl rfl (za rfl (zi rfl (za rfl (zg xf rfl (za rfl (zl yW rfl H.own0 rfl (za rfl (zf rfl ?_)))))))))
    obtain ⟨e2, oo2, d2, he2, hg2, hb2, hc2⟩ := (h2.kept H).atD (i := (i : Int)) (k := i) rfl (by omega)
    cases he2
    refine za rfl (zB xP rfl rfl (by omega) (by omega) (za rfl (zl sh3 rfl hg2 hc2 (za rfl (zf rfl (za rfl (zZ rfl rfl (by unfold zS; omega) (za rfl (zf rfl (za rfl (zZ rfl rfl (by unfold zS; omega) (za rfl (yz rfl rfl (fun h => ?_) (fun h => ?_))))))))))))))
    ·refine za rfl (zw rfl rfl (zb (zq rfl (ze (za rfl (zh (zb (zu (zt (zn (zJ (zt (zt ?_)))))))))))))
     refine zn (zJ (zt (zn (zp (zQ (⟨-1, rfl, (fun hv => ?_), (fun _ => rfl), (H.sub (List.nil_sublist _)).up (by omega)⟩))))))
     exfalso
     obtain ⟨q1, q2, q3⟩ := hv.low i (by omega) hnb.symm (may.getD q default) (zR (by omega)) hxS
     have r1 := hv.at q1
     have r2 := hv.at q2
     omega
    refine za rfl (zw rfl rfl (zb (zv rfl (zD (zP (zj (zF (za rfl (zf rfl (za rfl (zZ rfl rfl (by unfold zS; omega) (za rfl (zk rfl (zb (zO ?_)))))))))))))))
    refine ⟨may.length - (q + 1), by omega, _, q + 1, true, yf ⟨rfl, rfl, rfl, rfl, rfl, rfl, rfl, rfl, trivial⟩, H.up (by omega), hnb, by omega, rfl, fun hnt => ?_⟩
    intro m hmm hmw
    rcases yu (show q < may.length by omega) hmm with hmm | hmm
    ·exact hlow hnt m hmm hmw
    ·subst hmm
     exact ⟨by omega, by omega, by omega⟩
   refine za rfl (zi rfl (zc rfl (za rfl (zY rfl (zb (zv rfl (yi (zU (ye (z8 (zP (zj (zF ?_)))))))))))))
   refine za rfl (zf rfl (za rfl (zZ rfl rfl (by unfold zS; omega) (za rfl (zk rfl (zb (zO (⟨ks.length - (i + 1), by omega, _, i + 1, yf ⟨rfl, rfl, rfl, rfl, rfl, rfl, trivial⟩, H.up (by omega), by omega, rfl, ?_⟩))))))))
   intro j hj
   by_cases hj2 : j < i
   ·exact hall j hj2
   ·obtain rfl : j = i := by omega
    refine ⟨hn2, hn0, hk2, hk3, fun hnt => ?_⟩
    first
     | (rw [← hnb] at hnt; cases hnt; done)
     | (have hlw := hlow hnt; rw [List.take_of_length_le (by omega)] at hlw; exact hlw)
  refine za rfl (zr rfl (zb (zx (ze (za rfl (zg xf rfl (za rfl (zl yW rfl H.own0 rfl (za rfl (zf rfl ?_))))))))))
  obtain ⟨e2, oo2, d2, he2, hg2, hb2, hc2⟩ := (h2.kept H).atD (i := (i : Int)) (k := i) rfl (by omega)
  cases he2
  refine za rfl (zB xP rfl rfl (by omega) (by omega) (za rfl (zl sh3 rfl hg2 hc2 (za rfl (yg rfl rfl (fun h => ?_) (fun h => ?_))))))
  ·refine za rfl (zi rfl (zc rfl (zc rfl (zc rfl (zc rfl (zc rfl (zc rfl (za rfl (zC rfl (za rfl (zi rfl (zc rfl (zc rfl (zc rfl ?_))))))))))))))
   refine zc rfl (zc rfl (zc rfl (zc rfl (zc rfl (zc rfl (zc rfl (za rfl (zC rfl (zb (zq rfl (ze (za rfl (zh ?_)))))))))))))
   refine zb (zu (zn (zt (zn (zJ (zt (zn (zp (zQ (⟨-1, rfl, (fun hv => ?_), (fun _ => rfl), (H.sub (List.nil_sublist _)).up (by omega)⟩))))))))))
   exfalso
   have hn1 := hv.num (ns.getD i 0) (zR (by omega))
   omega
  refine za rfl (zi rfl (za rfl (zg xf rfl (za rfl (zl yW rfl H.own0 rfl (za rfl (zf rfl (za rfl (zB xP rfl rfl (by omega) (by omega) (za rfl (zl sh3 rfl hg2 hc2 (za rfl (yz rfl rfl (fun h => ?_) (fun h => ?_))))))))))))))
  ·refine za rfl (zw rfl rfl (za rfl (zi rfl (zc rfl (zc rfl (zc rfl (zc rfl (zc rfl (zc rfl (zc rfl (zc rfl (zc rfl (zc rfl ?_)))))))))))))
   refine za rfl (zC rfl (zb (zq rfl (ze (za rfl (zh (zb (zu (zn (zt (zn (zJ (zt ?_)))))))))))))
   refine zn (zp (zQ (⟨-1, rfl, (fun hv => ?_), (fun _ => rfl), (H.sub (List.nil_sublist _)).up (by omega)⟩)))
   exfalso
   have hn1 := hv.num (ns.getD i 0) (zR (by omega))
   omega
  refine za rfl (zw rfl rfl (za rfl (zi rfl (za rfl (zi rfl (za rfl (yC rfl (za rfl (zi rfl (zc rfl (zc rfl (zc rfl (zc rfl (zc rfl (zc rfl (za rfl (zY rfl ?_)))))))))))))))))
  refine za rfl (zw rfl rfl (zb (zv rfl (zD (zj (zx ?_))))))
  have hn2 : 0 ≤ ns.getD i 0 ∧ ns.getD i 0 ≤ 65536 := by omega
  have hn0 : yl (ks.getD i 0) bad 0 js = false → ns.getD i 0 ≤ 0 := fun hf => by first | omega | (rw [hnd] at hf; cases hf)
  refine yy [⟨0, 0, .light, []⟩, ⟨1, 1, .light, []⟩, ⟨2, 0, .light, [1]⟩, ⟨3, 7, .light, []⟩, ⟨4, 15, .light, []⟩, ⟨5, 31, .light, []⟩, ⟨6, 63, .light, []⟩, ⟨7, 127, .light, []⟩, ⟨8, 255, .light, []⟩, ⟨9, 127, .light, [8]⟩, ⟨10, 1023, .light, []⟩, ⟨11, 2047, .light, []⟩, ⟨12, 4095, .light, []⟩, ⟨13, 8191, .light, []⟩, ⟨14, 16383, .light, []⟩, ⟨15, 32767, .light, []⟩, ⟨16, 65535, .light, []⟩, ⟨17, 131071, .light, []⟩, ⟨18, 262143, .light, [24, 29]⟩, ⟨19, 524287, .light, [24, 29]⟩, ⟨20, 262143, .light, [19, 24, 29]⟩, ⟨21, 2097151, .light, [24, 29]⟩, ⟨22, 4194303, .light, [24, 29]⟩, ⟨23, 262143, .light, [19, 22]⟩, ⟨24, 8650751, .light, [19, 22]⟩, ⟨25, 262143, .light, [19, 22, 24]⟩, ⟨26, 33816575, .light, [19, 22, 24]⟩, ⟨27, 100925439, .whole, [19, 22, 24]⟩, ⟨28, 260308991, .light, [19, 22]⟩, ⟨29, 528744447, .light, [19, 22]⟩, ⟨30, 1073741823, .light, []⟩, ⟨31, 2147483647, .light, []⟩, ⟨32, 4294967295, .light, []⟩] (by kernel_rfl) (by kernel_rfl) ?_
  obtain ⟨e1, oo1, d1, he1, hg1, hb1, hc1⟩ := (h1.kept H).atD (i := (i : Int)) (k := i) rfl (by omega)
  cases he1
  have hl1 : e1 < zo := Nat.lt_of_lt_of_le hb1 (by have hmo := H.most; (try simp only at hmo ⊢); omega)
  refine zd rfl rfl (zg xo rfl ⟨rfl, (zG rfl rfl qe rfl H.own0 (by exact H.lim0 (by omega)) rfl (zd rfl rfl (zf rfl ⟨rfl, (zd rfl rfl (zB qL rfl rfl (by omega) (by omega) ⟨rfl, (zG rfl rfl yx rfl hg1 hl1 hc1 (zd rfl rfl (yg rfl rfl (fun h => ⟨rfl, ?_⟩) (fun h => ⟨rfl, ?_⟩))))⟩))⟩)))⟩)
  ·refine zd rfl rfl (zi rfl ⟨rfl, (zA rfl rfl (zA rfl rfl (zA rfl rfl (zA rfl rfl (zA rfl rfl (zA rfl rfl (zd rfl rfl (zC rfl ⟨rfl, (zd rfl rfl (zi rfl ⟨rfl, (zA rfl rfl (zA rfl rfl (zA rfl rfl ?_)))⟩))⟩))))))))⟩)
   refine zA rfl rfl (zA rfl rfl (zA rfl rfl (zA rfl rfl (zA rfl rfl (zA rfl rfl (zA rfl rfl (zA rfl rfl (zA rfl rfl (zA rfl rfl (zA rfl rfl (zA rfl rfl ?_)))))))))))
   refine zA rfl rfl (zA rfl rfl (zd rfl rfl (zC rfl ⟨rfl, (zV (zq rfl (ze (za rfl (zh (zb (zu (zn (zt (zn ?_))))))))))⟩)))
   refine zJ (zt (zn (zp (zQ (⟨-1, rfl, (fun hv => ?_), (fun _ => rfl), (H.sub (List.nil_sublist _)).up (by omega)⟩)))))
   exfalso
   have hs1 := hv.set (ks.getD i 0) (zR (by omega))
   first
    | omega
    | (have hs2 := (xx hv.inc).1 (i - 1) (by omega); have hs3 := (xx hv.inc).2 (i - 1) (by omega); rw [show i - 1 + 1 = i by omega] at hs2 hs3; omega)
  refine zd rfl rfl (zi rfl ⟨rfl, (zd rfl rfl (zg xo rfl ⟨rfl, (zG rfl rfl qe rfl H.own0 (by exact H.lim0 (by omega)) rfl (zd rfl rfl (zf rfl ⟨rfl, (zd rfl rfl (zB qL rfl rfl (by omega) (by omega) ⟨rfl, (zG rfl rfl yx rfl hg1 hl1 hc1 (zd rfl rfl (yz rfl rfl (fun h => ⟨rfl, ?_⟩) (fun h => ⟨rfl, ?_⟩))))⟩))⟩)))⟩))⟩)
  ·refine zd rfl rfl (zw rfl rfl ⟨rfl, (zd rfl rfl (zi rfl ⟨rfl, (zA rfl rfl (zA rfl rfl (zA rfl rfl (zA rfl rfl (zA rfl rfl (zA rfl rfl (zA rfl rfl (zA rfl rfl (zA rfl rfl (zA rfl rfl ?_))))))))))⟩))⟩)
   refine zA rfl rfl (zA rfl rfl (zA rfl rfl (zA rfl rfl (zA rfl rfl (zA rfl rfl (zA rfl rfl (zd rfl rfl (zC rfl ⟨rfl, (zV (zq rfl (ze (za rfl (zh ?_)))))⟩))))))))
   refine zb (zu (zn (zt (zn (zJ (zt (zn (zp (zQ (⟨-1, rfl, (fun hv => ?_), (fun _ => rfl), (H.sub (List.nil_sublist _)).up (by omega)⟩))))))))))
   exfalso
   have hs1 := hv.set (ks.getD i 0) (zR (by omega))
   first
    | omega
    | (have hs2 := (xx hv.inc).1 (i - 1) (by omega); have hs3 := (xx hv.inc).2 (i - 1) (by omega); rw [show i - 1 + 1 = i by omega] at hs2 hs3; omega)
  refine zd rfl rfl (zw rfl rfl ⟨rfl, (zd rfl rfl (zi rfl ⟨rfl, (zd rfl rfl (zf rfl ⟨rfl, (zd rfl rfl (yz rfl rfl (fun h => ⟨rfl, ?_⟩) (fun h => ⟨rfl, ?_⟩)))⟩))⟩))⟩)
  ·refine zd rfl rfl (zi rfl ⟨rfl, (zd rfl rfl (zg xo rfl ⟨rfl, (zG rfl rfl qe rfl H.own0 (by exact H.lim0 (by omega)) rfl (zd rfl rfl (zf rfl ⟨rfl, (zd rfl rfl (zB qL rfl rfl (by omega) (by omega) ⟨rfl, (zG rfl rfl yx rfl hg1 hl1 hc1 (zd rfl rfl (zg xo rfl ⟨rfl, (zG rfl rfl qe rfl H.own0 (by exact H.lim0 (by omega)) rfl (zd rfl rfl (zf rfl ⟨rfl, (zd rfl rfl (xm rfl rfl (by unfold zS; omega) ⟨rfl, (yn rfl rfl (op_max rfl rfl rfl ?_))⟩))⟩)))⟩)))⟩))⟩)))⟩))⟩)
   rw [show max ((i : Int) - 1) 0 = ((i - 1 : Nat) : Int) by omega]
   obtain ⟨_, _, d1b, he1b, hg1b, hb1b, hc1b⟩ := (h1.kept H).atD (i := ((i - 1 : Nat) : Int)) (k := i - 1) rfl (by omega)
   cases he1b
   refine zd rfl rfl (zB qL rfl rfl (by omega) (by omega) ⟨rfl, (zG rfl rfl yx rfl hg1b hl1 hc1b (zd rfl rfl (op_leq rfl rfl (fun h => ⟨rfl, ?_⟩) (fun h => ⟨rfl, ?_⟩))))⟩)
   ·refine zd rfl rfl (zN rfl rfl ⟨rfl, (zd rfl rfl (zw rfl rfl ⟨rfl, (zV (zq rfl (ze (za rfl (zh (zb (zu (zn (zt (zn (zJ ?_)))))))))))⟩))⟩)
    refine zt (zn (zp (zQ (⟨-1, rfl, (fun hv => ?_), (fun _ => rfl), (H.sub (List.nil_sublist _)).up (by omega)⟩))))
    exfalso
    have hs1 := hv.set (ks.getD i 0) (zR (by omega))
    first
     | omega
     | (have hs2 := (xx hv.inc).1 (i - 1) (by omega); have hs3 := (xx hv.inc).2 (i - 1) (by omega); rw [show i - 1 + 1 = i by omega] at hs2 hs3; omega)
   refine zd rfl rfl (zN rfl rfl ⟨rfl, (zd rfl rfl (zw rfl rfl ⟨rfl, (zV (zv rfl (zD (zj ?_))))⟩))⟩)
   have hk2 : 1 ≤ (ks.getD i 0) ∧ (ks.getD i 0) ≤ 65535 := by omega
   have hk3 : 0 < i → ks.getD (i - 1) 0 < (ks.getD i 0) := fun hi0 => by omega
   obtain ⟨N1, hN1⟩ : ∃ N1, N1 = 1 + 60 * i := ⟨_, rfl⟩
   rw [← hN1] at H
   refine ze (za rfl (zh (zb (zL (yB (fun k F s1 => ∃ (G : FF) (q : Nat) (nb : Bool), F = lay G [(0, .int .i64 w), (1, .slice ja js.length jcp), (2, .int .i64 bad), (3, .slice ma may.length mcp), (9, ptr b9), (11, .int .i64 (i : Int)), (12, .bool nb), (13, .int .i64 (q : Int))] ∧ HL [] s s1 [(b9, .cells [.slice (some ⟨e1, oo1, none⟩) ks.length c1, .slice (some ⟨e2, oo2, none⟩) ns.length c2] 40)] (N1 + 3 * q) ∧ nb = yl (ks.getD i 0) bad 0 js ∧ q ≤ may.length ∧ k = may.length - q ∧ (yl (ks.getD i 0) bad 0 js = true → ∀ m ∈ may.take q, m.w = (ks.getD i 0) → 0 ≤ atP ks ns m.p ∧ 0 ≤ atP ks ns (zI m.w m.p) ∧ ns.getD i 0 ≤ 1 + atP ks ns m.p + atP ks ns (zI m.w m.p))) ?_ may.length _ _ ?_)))))
   rotate_left
   ·exact ⟨_, 0, _, yf ⟨rfl, rfl, rfl, rfl, rfl, rfl, rfl, rfl, trivial⟩, H, hnd.symm, by omega, by omega, (by intro _ m hmm; simp at hmm)⟩
   rintro k F s1 ⟨G, q, nb, rfl, H, hnb, hq, rfl, hlow⟩
   refine zx ?_
   cases nb
   ·refine ze (za rfl (zf rfl (za rfl (zm rfl (za rfl (z7 qF rfl rfl rfl (za rfl (yg rfl rfl (fun h => ?_) (fun h => ?_)))))))))
    ·refine za rfl (zi rfl (za rfl (zi rfl (za rfl (zN rfl rfl (zb (zv rfl (yi (zU (ye (z8 (zP (zj (zF ?_))))))))))))))
     refine za rfl (zf rfl (za rfl (zZ rfl rfl (by unfold zS; omega) (za rfl (zk rfl (zb (zO (⟨ks.length - (i + 1), by omega, _, i + 1, yf ⟨rfl, rfl, rfl, rfl, rfl, rfl, trivial⟩, H.up (by omega), by omega, rfl, ?_⟩))))))))
     intro j hj
     by_cases hj2 : j < i
     ·exact hall j hj2
     ·obtain rfl : j = i := by omega
      refine ⟨hn2, hn0, hk2, hk3, fun hnt => ?_⟩
      first
       | (rw [← hnb] at hnt; cases hnt; done)
       | (have hlw := hlow hnt; rw [List.take_of_length_le (by omega)] at hlw; exact hlw)
    refine za rfl (zi rfl (zc rfl (za rfl (zY rfl (zb (zv rfl (yi (zU (ye (z8 (zP (zj (zF ?_)))))))))))))
    refine za rfl (zf rfl (za rfl (zZ rfl rfl (by unfold zS; omega) (za rfl (zk rfl (zb (zO (⟨ks.length - (i + 1), by omega, _, i + 1, yf ⟨rfl, rfl, rfl, rfl, rfl, rfl, trivial⟩, H.up (by omega), by omega, rfl, ?_⟩))))))))
    intro j hj
    by_cases hj2 : j < i
    ·exact hall j hj2
    ·obtain rfl : j = i := by omega
     refine ⟨hn2, hn0, hk2, hk3, fun hnt => ?_⟩
     first
      | (rw [← hnb] at hnt; cases hnt; done)
      | (have hlw := hlow hnt; rw [List.take_of_length_le (by omega)] at hlw; exact hlw)
   refine ze (za rfl (zf rfl (za rfl (zm rfl (za rfl (z7 qF rfl rfl rfl (za rfl (yg rfl rfl (fun h => ?_) (fun h => ?_)))))))))
   ·refine za rfl (zi rfl (za rfl (zi rfl (za rfl (zN rfl rfl (zb (zq rfl (zD (zj (zx (zL (zx (yy [⟨0, 0, .light, [6, 9]⟩, ⟨1, 0, .light, [6, 9]⟩, ⟨2, 3, .light, [6, 9]⟩, ⟨3, 7, .light, [6, 9]⟩, ⟨4, 15, .light, [6, 9]⟩, ⟨5, 0, .light, [4]⟩, ⟨6, 32, .light, [4]⟩, ⟨7, 0, .light, [4, 6]⟩, ⟨8, 224, .light, [4]⟩, ⟨9, 480, .light, [4]⟩, ⟨10, 1023, .light, []⟩] (by kernel_rfl) (by kernel_rfl) ?_)))))))))))))
    obtain ⟨em, oom, cm0, hem, hgm0, hbm, hcm0⟩ := (hM.kept H).atS (i := (q : Int)) (k := q) rfl (by omega)
    cases hem
    obtain ⟨cm, hgm, hcw, hcp⟩ := (hM.kept H).gotS (k := q) (by omega)
    have hlm : em < zo := Nat.lt_of_lt_of_le hbm (by have hmo := H.most; (try simp only at hmo ⊢); omega)
    obtain ⟨e1, oo1, d1, he1, hg1, hb1, hc1⟩ := (h1.kept H).atD (i := (i : Int)) (k := i) rfl (by omega)
    cases he1
    have hl1 : e1 < zo := Nat.lt_of_lt_of_le hb1 (by have hmo := H.most; (try simp only at hmo ⊢); omega)
    refine zd rfl rfl (zm rfl ⟨rfl, (zd rfl rfl (zf rfl ⟨rfl, (zd rfl rfl (zB el25 rfl rfl (by omega) (by omega) ⟨rfl, (zd rfl rfl (zg xT rfl ⟨rfl, (zG rfl rfl yx rfl hgm hlm hcw (zd rfl rfl (zg xo rfl ⟨rfl, (zG rfl rfl qe rfl H.own0 (by exact H.lim0 (by omega)) rfl (zd rfl rfl (zf rfl ⟨rfl, (zd rfl rfl (zB qL rfl rfl (by omega) (by omega) ⟨rfl, (zG rfl rfl yx rfl hg1 hl1 hc1 (zd rfl rfl (yM rfl rfl (fun h => ⟨rfl, ?_⟩) (fun h => ⟨rfl, ?_⟩))))⟩))⟩)))⟩)))⟩))⟩))⟩))⟩)
    ·refine zV (zq rfl (yi (zU (z8 (zj (zF (za rfl (zf rfl (za rfl (zZ rfl rfl (by unfold zS; omega) (za rfl (zk rfl (zb (zO ?_))))))))))))))
     refine ⟨may.length - (q + 1), by omega, _, q + 1, true, yf ⟨rfl, rfl, rfl, rfl, rfl, rfl, rfl, rfl, trivial⟩, H.up (by omega), hnb, by omega, rfl, fun hnt => ?_⟩
     intro m hmm hmw
     rcases yu (show q < may.length by omega) hmm with hmm | hmm
     ·exact hlow hnt m hmm hmw
     ·subst hmm; exact absurd hmw h
    refine zV (zv rfl (zD (zj ?_)))
    have hxS : (may.getD q default).w = (ks.getD i 0) := by simpa using h
    refine yy [⟨0, 0, .light, [5]⟩, ⟨1, 0, .light, [0]⟩, ⟨2, 0, .light, [0]⟩, ⟨3, 6, .light, [0]⟩, ⟨4, 14, .light, [0]⟩, ⟨5, 30, .light, [0]⟩, ⟨6, 63, .whole, []⟩, ⟨7, 127, .light, []⟩] (by kernel_rfl) (by kernel_rfl) ?_
    obtain ⟨em, oom, cm0, hem, hgm0, hbm, hcm0⟩ := (hM.kept H).atS (i := (q : Int)) (k := q) rfl (by omega)
    cases hem
    obtain ⟨cm, hgm, hcw, hcp⟩ := (hM.kept H).gotS (k := q) (by omega)
    have hlm : em < zo := Nat.lt_of_lt_of_le hbm (by have hmo := H.most; (try simp only at hmo ⊢); omega)
    refine yV rfl rfl sh40 rfl H.own0 (by exact H.lim0 (by omega)) rfl (zd rfl rfl (zm rfl ⟨rfl, (zd rfl rfl (zf rfl ⟨rfl, (zd rfl rfl (zB el25 rfl rfl (by omega) (by omega) ⟨rfl, (zd rfl rfl (zg y9 rfl ⟨rfl, (zG rfl rfl yx rfl hgm hlm hcp (yn rfl rfl (zy rfl fc46 rfl ?_)))⟩))⟩))⟩))⟩))
    obtain ⟨_, s9, hr, rfl, Hc⟩ := atR_ok (x := (may.getD q default).p) hI H.fine (h1.kept H) (h2.kept H) (by omega) (by have hmo := H.most; (try simp only at hmo); show _ + _ ≤ _; (try simp only); omega)
    refine ⟨_, _, hr, ?_⟩
    clear hr
    have H := H.call0 (HL.wider H.fine (Nat.le_refl _) (fun _ h => h) Hc)
    clear Hc
    refine zd rfl rfl (zk rfl ⟨rfl, (zV (yy [⟨0, 0, .light, [4]⟩, ⟨1, 0, .light, [0]⟩, ⟨2, 0, .light, [0]⟩, ⟨3, 6, .light, [0]⟩, ⟨4, 14, .light, [0]⟩, ⟨5, 30, .whole, [0]⟩, ⟨6, 63, .whole, []⟩, ⟨7, 127, .light, []⟩] (by kernel_rfl) (by kernel_rfl) ?_))⟩)
    obtain ⟨em, oom, cm0, hem, hgm0, hbm, hcm0⟩ := (hM.kept H).atS (i := (q : Int)) (k := q) rfl (by omega)
    cases hem
    obtain ⟨cm, hgm, hcw, hcp⟩ := (hM.kept H).gotS (k := q) (by omega)
    have hlm : em < zo := Nat.lt_of_lt_of_le hbm (by have hmo := H.most; (try simp only at hmo ⊢); omega)
    refine yV rfl rfl sh40 rfl H.own0 (by exact H.lim0 (by omega)) rfl (zd rfl rfl (zm rfl ⟨rfl, (zd rfl rfl (zf rfl ⟨rfl, (zd rfl rfl (zB el25 rfl rfl (by omega) (by omega) ⟨rfl, (yV rfl rfl sh62 rfl hgm0 hlm hcm0 (yn rfl rfl (zy rfl fc36 rfl ?_)))⟩))⟩))⟩))
    obtain ⟨_, s9, hr, rfl, Hc⟩ := rest_ok (x := (may.getD q default)) hI (Fine.narrow (X := [b9]) H.fine (by intro p hp; rw [List.mem_singleton] at hp; rw [hp]; exact H.lt0)) (by have hmo := H.most; (try simp only at hmo); show _ + _ ≤ _; (try simp only); omega)
    refine ⟨_, _, hr, ?_⟩
    clear hr
    have H := H.call0 (HL.wider H.fine (Nat.le_refl _) (fun _ h => List.mem_append_right _ h) Hc)
    clear Hc
    refine yn rfl rfl (zy rfl fc46 rfl ?_)
    obtain ⟨_, s9, hr, rfl, Hc⟩ := atR_ok (x := (zI (may.getD q default).w (may.getD q default).p)) hI H.fine (h1.kept H) (h2.kept H) (by omega) (by have hmo := H.most; (try simp only at hmo); show _ + _ ≤ _; (try simp only); omega)
    refine ⟨_, _, hr, ?_⟩
    clear hr
    have H := H.call0 (HL.wider H.fine (Nat.le_refl _) (fun _ h => h) Hc)
    clear Hc
    refine zd rfl rfl (zk rfl ⟨rfl, (zV (ze (za rfl (zf rfl (za rfl (yg rfl rfl (fun h => ?_) (fun h => ?_)))))))⟩)
    ·refine za rfl (zi rfl (zc rfl (zc rfl (za rfl (zC rfl (za rfl (zi rfl (zc rfl (zc rfl (za rfl (zC rfl (za rfl (zi rfl (zc rfl (zc rfl (za rfl (zC rfl ?_)))))))))))))))))
     refine za rfl (zi rfl (zc rfl (zc rfl (zc rfl (zc rfl (zc rfl (zc rfl (zc rfl (zc rfl (zc rfl (zc rfl (za rfl (zC rfl ?_)))))))))))))
     refine zb (zq rfl (ze (za rfl (zh (zb (zu (zt (zn (zJ (zt (zt (zn ?_))))))))))))
     refine zJ (zt (zn (zp (zQ (⟨-1, rfl, (fun hv => ?_), (fun _ => rfl), (H.sub (List.nil_sublist _)).up (by omega)⟩)))))
     exfalso
     obtain ⟨q1, q2, q3⟩ := hv.low i (by omega) hnb.symm (may.getD q default) (zR (by omega)) hxS
     have r1 := hv.at q1
     have r2 := hv.at q2
     omega
    refine za rfl (zi rfl (za rfl (zf rfl (za rfl (yg rfl rfl (fun h => ?_) (fun h => ?_))))))
    ·refine za rfl (zw rfl rfl (za rfl (zi rfl (zc rfl (zc rfl (za rfl (zC rfl (za rfl (zi rfl (zc rfl (zc rfl (za rfl (zC rfl (za rfl (zi rfl (zc rfl (zc rfl ?_)))))))))))))))))
     refine zc rfl (zc rfl (zc rfl (zc rfl (zc rfl (zc rfl (zc rfl (zc rfl (za rfl (zC rfl (zb (zq rfl (ze ?_))))))))))))
     refine za rfl (zh (zb (zu (zt (zn (zJ (zt (zt (zn (zJ (zt (zn ?_))))))))))))
     refine zp (zQ (⟨-1, rfl, (fun hv => ?_), (fun _ => rfl), (H.sub (List.nil_sublist _)).up (by omega)⟩))
     exfalso
     obtain ⟨q1, q2, q3⟩ := hv.low i (by omega) hnb.symm (may.getD q default) (zR (by omega)) hxS
     have r1 := hv.at q1
     have r2 := hv.at q2
     omega
    refine za rfl (zw rfl rfl (za rfl (zi rfl (za rfl (zf rfl (za rfl (yz rfl rfl (fun h => ?_) (fun h => ?_))))))))
    ·refine za rfl (zw rfl rfl (za rfl (zi rfl (zc rfl (zc rfl (za rfl (zC rfl (za rfl (zi rfl (zc rfl (zc rfl (zc rfl (zc rfl (zc rfl (zc rfl ?_)))))))))))))))
     refine zc rfl (zc rfl (zc rfl (zc rfl (za rfl (zC rfl (zb (zq rfl (ze (za rfl (zh (zb (zu (zt ?_)))))))))))))
     refine zn (zJ (zt (zt (zn (zJ (zt (zn (zp (zQ (⟨-1, rfl, (fun hv => ?_), (fun _ => rfl), (H.sub (List.nil_sublist _)).up (by omega)⟩))))))))))
     exfalso
     obtain ⟨q1, q2, q3⟩ := hv.low i (by omega) hnb.symm (may.getD q default) (zR (by omega)) hxS
     have r1 := hv.at q1
     have r2 := hv.at q2
     omega
    refine za rfl (zw rfl rfl (za rfl (zi rfl (za rfl (zf rfl (za rfl (yz rfl rfl (fun h => ?_) (fun h => ?_))))))))
    ·refine za rfl (zw rfl rfl (za rfl (zi rfl (zc rfl (zc rfl (zc rfl (zc rfl (zc rfl (zc rfl (zc rfl (zc rfl (zc rfl (zc rfl ?_)))))))))))))
     refine za rfl (zC rfl (zb (zq rfl (ze (za rfl (zh (zb (zu (zt (zn (zJ (zt (zt ?_)))))))))))))
     refine zn (zJ (zt (zn (zp (zQ (⟨-1, rfl, (fun hv => ?_), (fun _ => rfl), (H.sub (List.nil_sublist _)).up (by omega)⟩))))))
     exfalso
     obtain ⟨q1, q2, q3⟩ := hv.low i (by omega) hnb.symm (may.getD q default) (zR (by omega)) hxS
     have r1 := hv.at q1
     have r2 := hv.at q2
     omega
    refine za rfl (zw rfl rfl (za rfl (zi rfl (za rfl (zg xf rfl (za rfl (zl yW rfl H.own0 rfl (za rfl (zf rfl ?_)))))))))
    obtain ⟨e2, oo2, d2, he2, hg2, hb2, hc2⟩ := (h2.kept H).atD (i := (i : Int)) (k := i) rfl (by omega)
    cases he2
    refine za rfl (zB xP rfl rfl (by omega) (by omega) (za rfl (zl sh3 rfl hg2 hc2 (za rfl (zf rfl (za rfl (zZ rfl rfl (by unfold zS; omega) (za rfl (zf rfl (za rfl (zZ rfl rfl (by unfold zS; omega) (za rfl (yz rfl rfl (fun h => ?_) (fun h => ?_))))))))))))))
    ·refine za rfl (zw rfl rfl (zb (zq rfl (ze (za rfl (zh (zb (zu (zt (zn (zJ (zt (zt ?_)))))))))))))
     refine zn (zJ (zt (zn (zp (zQ (⟨-1, rfl, (fun hv => ?_), (fun _ => rfl), (H.sub (List.nil_sublist _)).up (by omega)⟩))))))
     exfalso
     obtain ⟨q1, q2, q3⟩ := hv.low i (by omega) hnb.symm (may.getD q default) (zR (by omega)) hxS
     have r1 := hv.at q1
     have r2 := hv.at q2
     omega
    refine za rfl (zw rfl rfl (zb (zv rfl (zD (zP (zj (zF (za rfl (zf rfl (za rfl (zZ rfl rfl (by unfold zS; omega) (za rfl (zk rfl (zb (zO ?_)))))))))))))))
    refine ⟨may.length - (q + 1), by omega, _, q + 1, true, yf ⟨rfl, rfl, rfl, rfl, rfl, rfl, rfl, rfl, trivial⟩, H.up (by omega), hnb, by omega, rfl, fun hnt => ?_⟩
    intro m hmm hmw
    rcases yu (show q < may.length by omega) hmm with hmm | hmm
    ·exact hlow hnt m hmm hmw
    ·subst hmm
     exact ⟨by omega, by omega, by omega⟩
   refine za rfl (zi rfl (zc rfl (za rfl (zY rfl (zb (zv rfl (yi (zU (ye (z8 (zP (zj (zF ?_)))))))))))))
   refine za rfl (zf rfl (za rfl (zZ rfl rfl (by unfold zS; omega) (za rfl (zk rfl (zb (zO (⟨ks.length - (i + 1), by omega, _, i + 1, yf ⟨rfl, rfl, rfl, rfl, rfl, rfl, trivial⟩, H.up (by omega), by omega, rfl, ?_⟩))))))))
   intro j hj
   by_cases hj2 : j < i
   ·exact hall j hj2
   ·obtain rfl : j = i := by omega
    refine ⟨hn2, hn0, hk2, hk3, fun hnt => ?_⟩
    first
     | (rw [← hnb] at hnt; cases hnt; done)
     | (have hlw := hlow hnt; rw [List.take_of_length_le (by omega)] at hlw; exact hlw)
  refine zd rfl rfl (zi rfl ⟨rfl, (zA rfl rfl (zA rfl rfl (zA rfl rfl (zA rfl rfl (zA rfl rfl (zA rfl rfl (zA rfl rfl (zA rfl rfl (zA rfl rfl (zA rfl rfl (zA rfl rfl ?_)))))))))))⟩)
  refine zA rfl rfl (zA rfl rfl (zd rfl rfl (zY rfl ⟨rfl, (zd rfl rfl (zw rfl rfl ⟨rfl, (zV (zv rfl (zD (zj ?_))))⟩))⟩)))
  have hk2 : 1 ≤ (ks.getD i 0) ∧ (ks.getD i 0) ≤ 65535 := by omega
  have hk3 : 0 < i → ks.getD (i - 1) 0 < (ks.getD i 0) := fun hi0 => by omega
  obtain ⟨N1, hN1⟩ : ∃ N1, N1 = 1 + 60 * i := ⟨_, rfl⟩
  rw [← hN1] at H
  refine ze (za rfl (zh (zb (zL (yB (fun k F s1 => ∃ (G : FF) (q : Nat) (nb : Bool), F = lay G [(0, .int .i64 w), (1, .slice ja js.length jcp), (2, .int .i64 bad), (3, .slice ma may.length mcp), (9, ptr b9), (11, .int .i64 (i : Int)), (12, .bool nb), (13, .int .i64 (q : Int))] ∧ HL [] s s1 [(b9, .cells [.slice (some ⟨e1, oo1, none⟩) ks.length c1, .slice (some ⟨e2, oo2, none⟩) ns.length c2] 40)] (N1 + 3 * q) ∧ nb = yl (ks.getD i 0) bad 0 js ∧ q ≤ may.length ∧ k = may.length - q ∧ (yl (ks.getD i 0) bad 0 js = true → ∀ m ∈ may.take q, m.w = (ks.getD i 0) → 0 ≤ atP ks ns m.p ∧ 0 ≤ atP ks ns (zI m.w m.p) ∧ ns.getD i 0 ≤ 1 + atP ks ns m.p + atP ks ns (zI m.w m.p))) ?_ may.length _ _ ?_)))))
  rotate_left
  ·exact ⟨_, 0, _, yf ⟨rfl, rfl, rfl, rfl, rfl, rfl, rfl, rfl, trivial⟩, H, hnd.symm, by omega, by omega, (by intro _ m hmm; simp at hmm)⟩
  rintro k F s1 ⟨G, q, nb, rfl, H, hnb, hq, rfl, hlow⟩
  refine zx ?_
  cases nb
  ·refine ze (za rfl (zf rfl (za rfl (zm rfl (za rfl (z7 qF rfl rfl rfl (za rfl (yg rfl rfl (fun h => ?_) (fun h => ?_)))))))))
   ·refine za rfl (zi rfl (za rfl (zi rfl (za rfl (zN rfl rfl (zb (zv rfl (yi (zU (ye (z8 (zP (zj (zF ?_))))))))))))))
    refine za rfl (zf rfl (za rfl (zZ rfl rfl (by unfold zS; omega) (za rfl (zk rfl (zb (zO (⟨ks.length - (i + 1), by omega, _, i + 1, yf ⟨rfl, rfl, rfl, rfl, rfl, rfl, trivial⟩, H.up (by omega), by omega, rfl, ?_⟩))))))))
    intro j hj
    by_cases hj2 : j < i
    ·exact hall j hj2
    ·obtain rfl : j = i := by omega
     refine ⟨hn2, hn0, hk2, hk3, fun hnt => ?_⟩
     first
      | (rw [← hnb] at hnt; cases hnt; done)
      | (have hlw := hlow hnt; rw [List.take_of_length_le (by omega)] at hlw; exact hlw)
   refine za rfl (zi rfl (zc rfl (za rfl (zY rfl (zb (zv rfl (yi (zU (ye (z8 (zP (zj (zF ?_)))))))))))))
   refine za rfl (zf rfl (za rfl (zZ rfl rfl (by unfold zS; omega) (za rfl (zk rfl (zb (zO (⟨ks.length - (i + 1), by omega, _, i + 1, yf ⟨rfl, rfl, rfl, rfl, rfl, rfl, trivial⟩, H.up (by omega), by omega, rfl, ?_⟩))))))))
   intro j hj
   by_cases hj2 : j < i
   ·exact hall j hj2
   ·obtain rfl : j = i := by omega
    refine ⟨hn2, hn0, hk2, hk3, fun hnt => ?_⟩
    first
     | (rw [← hnb] at hnt; cases hnt; done)
     | (have hlw := hlow hnt; rw [List.take_of_length_le (by omega)] at hlw; exact hlw)
  refine ze (za rfl (zf rfl (za rfl (zm rfl (za rfl (z7 qF rfl rfl rfl (za rfl (yg rfl rfl (fun h => ?_) (fun h => ?_)))))))))
  ·refine za rfl (zi rfl (za rfl (zi rfl (za rfl (zN rfl rfl (zb (zq rfl (zD (zj (zx (zL (zx (yy [⟨0, 0, .light, [6, 9]⟩, ⟨1, 0, .light, [6, 9]⟩, ⟨2, 3, .light, [6, 9]⟩, ⟨3, 7, .light, [6, 9]⟩, ⟨4, 15, .light, [6, 9]⟩, ⟨5, 0, .light, [4]⟩, ⟨6, 32, .light, [4]⟩, ⟨7, 0, .light, [4, 6]⟩, ⟨8, 224, .light, [4]⟩, ⟨9, 480, .light, [4]⟩, ⟨10, 1023, .light, []⟩] (by kernel_rfl) (by kernel_rfl) ?_)))))))))))))
   obtain ⟨em, oom, cm0, hem, hgm0, hbm, hcm0⟩ := (hM.kept H).atS (i := (q : Int)) (k := q) rfl (by omega)
   cases hem
   obtain ⟨cm, hgm, hcw, hcp⟩ := (hM.kept H).gotS (k := q) (by omega)
   have hlm : em < zo := Nat.lt_of_lt_of_le hbm (by have hmo := H.most; (try simp only at hmo ⊢); omega)
   obtain ⟨e1, oo1, d1, he1, hg1, hb1, hc1⟩ := (h1.kept H).atD (i := (i : Int)) (k := i) rfl (by omega)
   cases he1
   have hl1 : e1 < zo := Nat.lt_of_lt_of_le hb1 (by have hmo := H.most; (try simp only at hmo ⊢); omega)
   refine zd rfl rfl (zm rfl ⟨rfl, (zd rfl rfl (zf rfl ⟨rfl, (zd rfl rfl (zB el25 rfl rfl (by omega) (by omega) ⟨rfl, (zd rfl rfl (zg xT rfl ⟨rfl, (zG rfl rfl yx rfl hgm hlm hcw (zd rfl rfl (zg xo rfl ⟨rfl, (zG rfl rfl qe rfl H.own0 (by exact H.lim0 (by omega)) rfl (zd rfl rfl (zf rfl ⟨rfl, (zd rfl rfl (zB qL rfl rfl (by omega) (by omega) ⟨rfl, (zG rfl rfl yx rfl hg1 hl1 hc1 (zd rfl rfl (yM rfl rfl (fun h => ⟨rfl, ?_⟩) (fun h => ⟨rfl, ?_⟩))))⟩))⟩)))⟩)))⟩))⟩))⟩))⟩)
   ·refine zV (zq rfl (yi (zU (z8 (zj (zF (za rfl (zf rfl (za rfl (zZ rfl rfl (by unfold zS; omega) (za rfl (zk rfl (zb (zO ?_))))))))))))))
    refine ⟨may.length - (q + 1), by omega, _, q + 1, true, yf ⟨rfl, rfl, rfl, rfl, rfl, rfl, rfl, rfl, trivial⟩, H.up (by omega), hnb, by omega, rfl, fun hnt => ?_⟩
    intro m hmm hmw
    rcases yu (show q < may.length by omega) hmm with hmm | hmm
    ·exact hlow hnt m hmm hmw
    ·subst hmm; exact absurd hmw h
   refine zV (zv rfl (zD (zj ?_)))
   have hxS : (may.getD q default).w = (ks.getD i 0) := by simpa using h
   refine yy [⟨0, 0, .light, [5]⟩, ⟨1, 0, .light, [0]⟩, ⟨2, 0, .light, [0]⟩, ⟨3, 6, .light, [0]⟩, ⟨4, 14, .light, [0]⟩, ⟨5, 30, .light, [0]⟩, ⟨6, 63, .whole, []⟩, ⟨7, 127, .light, []⟩] (by kernel_rfl) (by kernel_rfl) ?_
   obtain ⟨em, oom, cm0, hem, hgm0, hbm, hcm0⟩ := (hM.kept H).atS (i := (q : Int)) (k := q) rfl (by omega)
   cases hem
   obtain ⟨cm, hgm, hcw, hcp⟩ := (hM.kept H).gotS (k := q) (by omega)
   have hlm : em < zo := Nat.lt_of_lt_of_le hbm (by have hmo := H.most; (try simp only at hmo ⊢); omega)
   refine yV rfl rfl sh40 rfl H.own0 (by exact H.lim0 (by omega)) rfl (zd rfl rfl (zm rfl ⟨rfl, (zd rfl rfl (zf rfl ⟨rfl, (zd rfl rfl (zB el25 rfl rfl (by omega) (by omega) ⟨rfl, (zd rfl rfl (zg y9 rfl ⟨rfl, (zG rfl rfl yx rfl hgm hlm hcp (yn rfl rfl (zy rfl fc46 rfl ?_)))⟩))⟩))⟩))⟩))
   obtain ⟨_, s9, hr, rfl, Hc⟩ := atR_ok (x := (may.getD q default).p) hI H.fine (h1.kept H) (h2.kept H) (by omega) (by have hmo := H.most; (try simp only at hmo); show _ + _ ≤ _; (try simp only); omega)
   refine ⟨_, _, hr, ?_⟩
   clear hr
   have H := H.call0 (HL.wider H.fine (Nat.le_refl _) (fun _ h => h) Hc)
   clear Hc
   refine zd rfl rfl (zk rfl ⟨rfl, (zV (yy [⟨0, 0, .light, [4]⟩, ⟨1, 0, .light, [0]⟩, ⟨2, 0, .light, [0]⟩, ⟨3, 6, .light, [0]⟩, ⟨4, 14, .light, [0]⟩, ⟨5, 30, .whole, [0]⟩, ⟨6, 63, .whole, []⟩, ⟨7, 127, .light, []⟩] (by kernel_rfl) (by kernel_rfl) ?_))⟩)
   obtain ⟨em, oom, cm0, hem, hgm0, hbm, hcm0⟩ := (hM.kept H).atS (i := (q : Int)) (k := q) rfl (by omega)
   cases hem
   obtain ⟨cm, hgm, hcw, hcp⟩ := (hM.kept H).gotS (k := q) (by omega)
   have hlm : em < zo := Nat.lt_of_lt_of_le hbm (by have hmo := H.most; (try simp only at hmo ⊢); omega)
   refine yV rfl rfl sh40 rfl H.own0 (by exact H.lim0 (by omega)) rfl (zd rfl rfl (zm rfl ⟨rfl, (zd rfl rfl (zf rfl ⟨rfl, (zd rfl rfl (zB el25 rfl rfl (by omega) (by omega) ⟨rfl, (yV rfl rfl sh62 rfl hgm0 hlm hcm0 (yn rfl rfl (zy rfl fc36 rfl ?_)))⟩))⟩))⟩))
   obtain ⟨_, s9, hr, rfl, Hc⟩ := rest_ok (x := (may.getD q default)) hI (Fine.narrow (X := [b9]) H.fine (by intro p hp; rw [List.mem_singleton] at hp; rw [hp]; exact H.lt0)) (by have hmo := H.most; (try simp only at hmo); show _ + _ ≤ _; (try simp only); omega)
   refine ⟨_, _, hr, ?_⟩
   clear hr
   have H := H.call0 (HL.wider H.fine (Nat.le_refl _) (fun _ h => List.mem_append_right _ h) Hc)
   clear Hc
   refine yn rfl rfl (zy rfl fc46 rfl ?_)
   obtain ⟨_, s9, hr, rfl, Hc⟩ := atR_ok (x := (zI (may.getD q default).w (may.getD q default).p)) hI H.fine (h1.kept H) (h2.kept H) (by omega) (by have hmo := H.most; (try simp only at hmo); show _ + _ ≤ _; (try simp only); omega)
   refine ⟨_, _, hr, ?_⟩
   clear hr
   have H := H.call0 (HL.wider H.fine (Nat.le_refl _) (fun _ h => h) Hc)
   clear Hc
   refine zd rfl rfl (zk rfl ⟨rfl, (zV (ze (za rfl (zf rfl (za rfl (yg rfl rfl (fun h => ?_) (fun h => ?_)))))))⟩)
   ·refine za rfl (zi rfl (zc rfl (zc rfl (za rfl (zC rfl (za rfl (zi rfl (zc rfl (zc rfl (za rfl (zC rfl (za rfl (zi rfl (zc rfl (zc rfl (za rfl (zC rfl ?_)))))))))))))))))
    refine za rfl (zi rfl (zc rfl (zc rfl (zc rfl (zc rfl (zc rfl (zc rfl (zc rfl (zc rfl (zc rfl (zc rfl (za rfl (zC rfl ?_)))))))))))))
    refine zb (zq rfl (ze (za rfl (zh (zb (zu (zt (zn (zJ (zt (zt (zn ?_))))))))))))
    refine zJ (zt (zn (zp (zQ (⟨-1, rfl, (fun hv => ?_), (fun _ => rfl), (H.sub (List.nil_sublist _)).up (by omega)⟩)))))
    exfalso
    obtain ⟨q1, q2, q3⟩ := hv.low i (by omega) hnb.symm (may.getD q default) (zR (by omega)) hxS
    have r1 := hv.at q1
    have r2 := hv.at q2
    omega
   refine za rfl (zi rfl (za rfl (zf rfl (za rfl (yg rfl rfl (fun h => ?_) (fun h => ?_))))))
   ·refine za rfl (zw rfl rfl (za rfl (zi rfl (zc rfl (zc rfl (za rfl (zC rfl (za rfl (zi rfl (zc rfl (zc rfl (za rfl (zC rfl (za rfl (zi rfl (zc rfl (zc rfl ?_)))))))))))))))))
    refine zc rfl (zc rfl (zc rfl (zc rfl (zc rfl (zc rfl (zc rfl (zc rfl (za rfl (zC rfl (zb (zq rfl (ze ?_))))))))))))
    refine za rfl (zh (zb (zu (zt (zn (zJ (zt (zt (zn (zJ (zt (zn ?_))))))))))))
    refine zp (zQ (⟨-1, rfl, (fun hv => ?_), (fun _ => rfl), (H.sub (List.nil_sublist _)).up (by omega)⟩))
    exfalso
    obtain ⟨q1, q2, q3⟩ := hv.low i (by omega) hnb.symm (may.getD q default) (zR (by omega)) hxS
    have r1 := hv.at q1
    have r2 := hv.at q2
    omega
   refine za rfl (zw rfl rfl (za rfl (zi rfl (za rfl (zf rfl (za rfl (yz rfl rfl (fun h => ?_) (fun h => ?_))))))))
   ·refine za rfl (zw rfl rfl (za rfl (zi rfl (zc rfl (zc rfl (za rfl (zC rfl (za rfl (zi rfl (zc rfl (zc rfl (zc rfl (zc rfl (zc rfl (zc rfl ?_)))))))))))))))
    refine zc rfl (zc rfl (zc rfl (zc rfl (za rfl (zC rfl (zb (zq rfl (ze (za rfl (zh (zb (zu (zt ?_)))))))))))))
    refine zn (zJ (zt (zt (zn (zJ (zt (zn (zp (zQ (⟨-1, rfl, (fun hv => ?_), (fun _ => rfl), (H.sub (List.nil_sublist _)).up (by omega)⟩))))))))))
    exfalso
    obtain ⟨q1, q2, q3⟩ := hv.low i (by omega) hnb.symm (may.getD q default) (zR (by omega)) hxS
    have r1 := hv.at q1
    have r2 := hv.at q2
    omega
   refine za rfl (zw rfl rfl (za rfl (zi rfl (za rfl (zf rfl (za rfl (yz rfl rfl (fun h => ?_) (fun h => ?_))))))))
   ·refine za rfl (zw rfl rfl (za rfl (zi rfl (zc rfl (zc rfl (zc rfl (zc rfl (zc rfl (zc rfl (zc rfl (zc rfl (zc rfl (zc rfl ?_)))))))))))))
    refine za rfl (zC rfl (zb (zq rfl (ze (za rfl (zh (zb (zu (zt (zn (zJ (zt (zt ?_)))))))))))))
    refine zn (zJ (zt (zn (zp (zQ (⟨-1, rfl, (fun hv => ?_), (fun _ => rfl), (H.sub (List.nil_sublist _)).up (by omega)⟩))))))
    exfalso
    obtain ⟨q1, q2, q3⟩ := hv.low i (by omega) hnb.symm (may.getD q default) (zR (by omega)) hxS
    have r1 := hv.at q1
    have r2 := hv.at q2
    omega
   refine za rfl (zw rfl rfl (za rfl (zi rfl (za rfl (zg xf rfl (za rfl (zl yW rfl H.own0 rfl (za rfl (zf rfl ?_)))))))))
   obtain ⟨e2, oo2, d2, he2, hg2, hb2, hc2⟩ := (h2.kept H).atD (i := (i : Int)) (k := i) rfl (by omega)
   cases he2
   refine za rfl (zB xP rfl rfl (by omega) (by omega) (za rfl (zl sh3 rfl hg2 hc2 (za rfl (zf rfl (za rfl (zZ rfl rfl (by unfold zS; omega) (za rfl (zf rfl (za rfl (zZ rfl rfl (by unfold zS; omega) (za rfl (yz rfl rfl (fun h => ?_) (fun h => ?_))))))))))))))
   ·refine za rfl (zw rfl rfl (zb (zq rfl (ze (za rfl (zh (zb (zu (zt (zn (zJ (zt (zt ?_)))))))))))))
    refine zn (zJ (zt (zn (zp (zQ (⟨-1, rfl, (fun hv => ?_), (fun _ => rfl), (H.sub (List.nil_sublist _)).up (by omega)⟩))))))
    exfalso
    obtain ⟨q1, q2, q3⟩ := hv.low i (by omega) hnb.symm (may.getD q default) (zR (by omega)) hxS
    have r1 := hv.at q1
    have r2 := hv.at q2
    omega
   refine za rfl (zw rfl rfl (zb (zv rfl (zD (zP (zj (zF (za rfl (zf rfl (za rfl (zZ rfl rfl (by unfold zS; omega) (za rfl (zk rfl (zb (zO ?_)))))))))))))))
   refine ⟨may.length - (q + 1), by omega, _, q + 1, true, yf ⟨rfl, rfl, rfl, rfl, rfl, rfl, rfl, rfl, trivial⟩, H.up (by omega), hnb, by omega, rfl, fun hnt => ?_⟩
   intro m hmm hmw
   rcases yu (show q < may.length by omega) hmm with hmm | hmm
   ·exact hlow hnt m hmm hmw
   ·subst hmm
    exact ⟨by omega, by omega, by omega⟩
  refine za rfl (zi rfl (zc rfl (za rfl (zY rfl (zb (zv rfl (yi (zU (ye (z8 (zP (zj (zF ?_)))))))))))))
  refine za rfl (zf rfl (za rfl (zZ rfl rfl (by unfold zS; omega) (za rfl (zk rfl (zb (zO (⟨ks.length - (i + 1), by omega, _, i + 1, yf ⟨rfl, rfl, rfl, rfl, rfl, rfl, trivial⟩, H.up (by omega), by omega, rfl, ?_⟩))))))))
  intro j hj
  by_cases hj2 : j < i
  ·exact hall j hj2
  ·obtain rfl : j = i := by omega
   refine ⟨hn2, hn0, hk2, hk3, fun hnt => ?_⟩
   first
    | (rw [← hnb] at hnt; cases hnt; done)
    | (have hlw := hlow hnt; rw [List.take_of_length_le (by omega)] at hlw; exact hlw)
 refine zb (zv rfl (yi (zU (ye (z8 (zj (ze (za rfl (ya sh40 rfl H.own0 rfl (za rfl (zf rfl (za rfl (zy rfl fc46 rfl ?_)))))))))))))
 obtain ⟨_, s9, hr, rfl, Hc⟩ := atR_ok (x := w) hI H.fine (h1.kept H) (h2.kept H) (by omega) (by have hmo := H.most; (try simp only at hmo); show _ + _ ≤ _; (try simp only); omega)
 refine ⟨_, _, hr, ?_⟩
 clear hr
 have H := H.call0 Hc
 clear Hc
 refine za rfl (zk rfl (zb (zu (zp (zQ ?_)))))
 have hL : Lev js bad may ks ns := lev_of hln (fun j hj => hall j (by omega))
 exact ⟨_, rfl, (fun _ => rfl), (fun hn => absurd hL hn), (H.sub (List.nil_sublist _)).up (by omega)⟩
end Go.Proofs.YtdejleegamcioaaGreat
