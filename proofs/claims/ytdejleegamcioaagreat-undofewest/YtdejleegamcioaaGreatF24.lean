/- undo.Levels.shows: what levels show. -/
import Derived.Test.YtdejleegamcioaaGreatF23
namespace Go.Proofs.YtdejleegamcioaaGreat
open Go Go.M
theorem fb57 : yw Tryz.f57 (Tryz.f57.body.getD .skip) 5 = true := by kernel_rfl
theorem fc101 : yp Tryz.prog 101 = true := by kernel_rfl
theorem fc103 : yp Tryz.prog 103 = true := by kernel_rfl
theorem fc96 : yp Tryz.prog 96 = true := by kernel_rfl
theorem fc97 : yp Tryz.prog 97 = true := by kernel_rfl
theorem fc98 : yp Tryz.prog 98 = true := by kernel_rfl
theorem fc99 : yp Tryz.prog 99 = true := by kernel_rfl
set_option maxHeartbeats 4000000 in
set_option maxRecDepth 10000 in
theorem shows_ok {I : yb} (hI : Plain I) {s : St} (hf : Fine s) {a1 a2 : Option Addr} {c1 c2 : Nat} {ks ns : List Int} {w bad : Int} {vj vm : Value} {js : List (Int × Int)} {may : List Sp} (h1 : Sl s 23 1 (.slice a1 ks.length c1) (ks.map dc)) (h2 : Sl s 3 1 (.slice a2 ns.length c2) (ns.map dc)) (hJ : Sl s 30 2 vj (js.map jc)) (hM : Sl s 62 10 vm (may.map Sp.cells)) (hj : ∀ j ∈ js, joinB j) (hjl : js.length ≤ 16) (hml : may.length ≤ 15) (hkl : ks.length ≤ 100000) (hroom : s.next + (10 + 60 * ks.length) ≤ zo) :
  ∃ v' s', yI Tryz.prog I 57 #[.agg ⟨[.slice a1 ks.length c1, .slice a2 ns.length c2]⟩, .int .i64 w, vj, .int .i64 bad, vm] s v' s' ∧ (∃ (n : Int) (b : Bool), v' = .tuple ⟨[.int .i64 n, .bool b]⟩ ∧ (b = true → Lev js bad may ks ns ∧ w ∈ ks ∧ n = atP ks ns w) ∧ (b = false → ¬ (Lev js bad may ks ns ∧ w ∈ ks)) ∧ HL [] s s' [] (10 + 60 * ks.length)) := by
 have H := hf.hl
 obtain ⟨ja, jn, jcp, rfl, hjn⟩ := hJ.isSlice
 rw [List.length_map] at hjn
 subst hjn
 obtain ⟨ma, mn, mcp, rfl, hmn⟩ := hM.isSlice
 rw [List.length_map] at hmn
 subst hmn
 refine yc 5 (hI 57 (by decide) (by decide)) Tryz.func57 rfl fb57 rfl ?_
 refine ze (za rfl (yX H rfl (by omega) (fun b5 s1 H => ?_)))
 refine za rfl (zh (za rfl (zh (zb (zx (yy [⟨0, 0, .light, [4]⟩, ⟨1, 1, .light, [4]⟩, ⟨2, 3, .light, [4]⟩, ⟨3, 0, .light, [1]⟩, ⟨4, 8, .light, [1]⟩, ⟨5, 24, .light, [1]⟩, ⟨6, 63, .light, []⟩, ⟨7, 127, .light, []⟩, ⟨8, 255, .light, []⟩, ⟨9, 511, .light, []⟩, ⟨10, 1023, .whole, []⟩, ⟨11, 2047, .light, []⟩, ⟨12, 4095, .light, []⟩, ⟨13, 8191, .light, []⟩, ⟨14, 16383, .light, [20]⟩, ⟨15, 32767, .light, [20]⟩, ⟨19, 16383, .light, [15]⟩, ⟨20, 540671, .light, [15]⟩, ⟨21, 1589247, .light, [15]⟩, ⟨16, 65535, .whole, [20]⟩, ⟨17, 131071, .whole, [20]⟩, ⟨18, 262143, .light, [20]⟩, ⟨22, 4194303, .light, []⟩, ⟨23, 8388607, .light, []⟩] (by kernel_rfl) (by kernel_rfl) (zd rfl rfl (zg qX rfl ⟨rfl, (zG rfl rfl qe rfl H.own0 (by exact H.lim0 (by omega)) rfl (zd rfl rfl (z7 un31 rfl rfl rfl ⟨rfl, (zd rfl rfl (zg of36_1 rfl ⟨rfl, (zG rfl rfl yW rfl H.own0 (by exact H.lim0 (by omega)) rfl (zd rfl rfl (z7 xE rfl rfl rfl ⟨rfl, (zd rfl rfl (yM rfl rfl (fun h => ⟨rfl, ?_⟩) (fun h => ⟨rfl, ?_⟩)))⟩)))⟩))⟩)))⟩))))))))
 ·refine zd rfl rfl (zi rfl ⟨rfl, (zA rfl rfl (zA rfl rfl (zA rfl rfl (zA rfl rfl (zd rfl rfl (zC rfl ⟨rfl, (zd rfl rfl (zi rfl ⟨rfl, (zA rfl rfl (zA rfl rfl (zA rfl rfl (zA rfl rfl (zA rfl rfl ?_)))))⟩))⟩))))))⟩)
  refine zA rfl rfl (zA rfl rfl (zA rfl rfl (zA rfl rfl (zd rfl rfl (zC rfl ⟨rfl, (zV (zq rfl (ze (za rfl (zh (za rfl (zh (zb (zu ?_)))))))))⟩)))))
  refine zn (zp (yE rfl rfl (⟨0, false, rfl, (fun h => by cases h), (fun _ hh => ?_), (H.sub (List.nil_sublist _)).up (by omega)⟩)))
  first
   | (have := hh.1.len; omega)
   | (have := hap.mpr (xx hh.1.inc).2; omega)
   | (have := hbs.mpr (xx hh.1.inc).1; cases this)
 refine zd rfl rfl (zi rfl ⟨rfl, (zd rfl rfl (zg qX rfl ⟨rfl, (zG rfl rfl qe rfl H.own0 (by exact H.lim0 (by omega)) rfl (yn rfl rfl (zy rfl fc96 rfl ?_)))⟩))⟩)
 obtain ⟨_, s9, hr, bs, rfl, hbs, hs9⟩ := isSorted_ok hI (h1.kept H) (by omega) (by have hmo := H.most; (try simp only at hmo); omega)
 rw [hs9] at hr
 refine ⟨_, _, hr, ?_⟩
 clear hr
 cases bs
 ·refine zd rfl rfl (yC rfl ⟨rfl, (zd rfl rfl (zw rfl rfl ⟨rfl, (zd rfl rfl (zi rfl ⟨rfl, (zA rfl rfl (zA rfl rfl (zA rfl rfl (zA rfl rfl (zA rfl rfl (zA rfl rfl (zA rfl rfl (zA rfl rfl (zA rfl rfl ?_)))))))))⟩))⟩))⟩)
  refine zd rfl rfl (zC rfl ⟨rfl, (zV (zq rfl (ze (za rfl (zh (za rfl (zh (zb (zu (zn (zp (yE rfl rfl (⟨0, false, rfl, (fun h => by cases h), (fun _ hh => ?_), (H.sub (List.nil_sublist _)).up (by omega)⟩)))))))))))))⟩)
  first
   | (have := hh.1.len; omega)
   | (have := hap.mpr (xx hh.1.inc).2; omega)
   | (have := hbs.mpr (xx hh.1.inc).1; cases this)
 refine zd rfl rfl (yC rfl ⟨rfl, (zd rfl rfl (zw rfl rfl ⟨rfl, (zd rfl rfl (zi rfl ⟨rfl, (zd rfl rfl (zg qX rfl ⟨rfl, (zG rfl rfl qe rfl H.own0 (by exact H.lim0 (by omega)) rfl (zd rfl rfl (zg qX rfl ⟨rfl, (zG rfl rfl qe rfl H.own0 (by exact H.lim0 (by omega)) rfl (zd rfl rfl (z7 un31 rfl rfl rfl ⟨rfl, (yn rfl rfl (zy rfl fc98 rfl ?_))⟩)))⟩)))⟩))⟩))⟩))⟩)
 obtain ⟨_, s9, hr, Dc, ⟨soa, son, soc⟩, rfl, Hc, hcl⟩ := clone_ok hI (Fine.narrow (X := [b5]) H.fine (by intro p hp; rw [List.mem_singleton] at hp; rw [hp]; exact H.lt0)) (Sl.prot (X := [b5]) (h1.kept H)) (by omega) (by have hmo := H.most; (try simp only at hmo); show _ + _ ≤ _; (try simp only); omega)
 refine ⟨_, _, hr, ?_⟩
 clear hr
 have H := H.call (HL.wider H.fine (Nat.le_refl _) (fun _ h => List.mem_append_right _ h) Hc)
 clear Hc
 rcases hcl with ⟨hn0, hl0⟩ | ⟨bc, capc, hso, rfl, hcc⟩
 ·simp only at hn0
  subst hn0
  refine yn rfl rfl (zy rfl fc97 rfl ?_)
  obtain ⟨_, s9, hr, rfl, hs9⟩ := compact0_ok (s := _) (a := soa) (c := soc) hI
  rw [hs9] at hr
  refine ⟨_, _, hr, ?_⟩
  clear hr
  refine zd rfl rfl (z7 un31 rfl rfl rfl ⟨rfl, (zd rfl rfl (yM rfl rfl (fun h => False.elim (by rw [hl0] at h; exact h rfl)) (fun h => ⟨rfl, ?_⟩)))⟩)
  refine zd rfl rfl (zw rfl rfl ⟨rfl, (zV (zv rfl (zD (zj ?_))))⟩)
  have hln : ks.length = ns.length := by omega
  have hinc : Inc ks := by first | (rw [hl0]; exact .nil) | exact inc_of (hbs.mp rfl) (hap.mp (by omega))
  refine ze (za rfl (op_makeFunc (za rfl (op_assignF rfl (zb (zx (ze (za rfl (zg qX rfl (za rfl (zl qe rfl H.ownA rfl (za rfl (zy rfl fc101 rfl ?_)))))))))))))
  obtain ⟨_, s9, hr, rfl, hs9⟩ := setAny_ok hI (h1.kept H) (by omega)
  rw [hs9] at hr
  refine ⟨_, _, hr, ?_⟩
  clear hr
  cases hsb : ks.any setB
  ·refine zb (zv rfl (zD (zj (zx (ze (za rfl (zg of36_1 rfl (za rfl (zl yW rfl H.ownA rfl (za rfl (zy rfl fc103 rfl ?_)))))))))))
   obtain ⟨_, s9, hr, rfl, hs9⟩ := numAny_ok hI (h2.kept H) (by omega)
   rw [hs9] at hr
   refine ⟨_, _, hr, ?_⟩
   clear hr
   cases hnb : ns.any numB
   ·refine zb (zv rfl (zD (zj (zx ?_))))
    have H := (H.sub (L' := [(b5, .cells [.slice a1 ks.length c1, .slice a2 ns.length c2] 36)]) (by exact List.sublist_append_right _ _)).up (show _ ≤ 5 by omega)
    obtain ⟨N0, hN0⟩ : ∃ N0, N0 = 5 := ⟨_, rfl⟩
    rw [← hN0] at H
    have hset : ∀ y ∈ ks, ¬ (y < 1 ∨ 65536 ≤ y) := fun y hy hc => by have : ks.any setB = true := List.any_eq_true.mpr ⟨y, hy, by simpa [setB] using hc⟩; rw [hsb] at this; cases this
    have hnum : ∀ y ∈ ns, ¬ (y < 0 ∨ 65536 < y) := fun y hy hc => by have : ns.any numB = true := List.any_eq_true.mpr ⟨y, hy, by simpa [numB] using hc⟩; rw [hnb] at this; cases this
    refine ze (za rfl (zg qX rfl (za rfl (zl qe rfl H.own0 rfl (za rfl (z7 un31 rfl rfl rfl (za rfl (xL (zb (zL (yB (fun k F s1 => ∃ (G : FF) (i : Nat), F = lay G [(1, .int .i64 w), (2, .slice ja js.length jcp), (3, .int .i64 bad), (4, .slice ma may.length mcp), (5, ptr b5), (12, .func (.func 99) #[] #[ptr b5]), (53, .slice a1 ks.length c1), (54, .int .i64 (ks.length : Int)), (55, .int .i64 (i : Int))] ∧ HL [] s s1 [(b5, .cells [.slice a1 ks.length c1, .slice a2 ns.length c2] 36)] (N0 + 60 * i) ∧ i ≤ ks.length ∧ k = ks.length - i ∧ (∀ j, j < i → (yl (ks.getD j 0) bad 0 js = false → ns.getD j 0 = 0) ∧ (yl (ks.getD j 0) bad 0 js = true → ∀ m ∈ may, m.w = ks.getD j 0 → m.p ∈ ks ∧ zI m.w m.p ∈ ks ∧ ns.getD j 0 ≤ 1 + atP ks ns m.p + atP ks ns (zI m.w m.p)))) ?_ ks.length _ _ ?_)))))))))))
    rotate_left
    ·exact ⟨_, 0, yf ⟨rfl, rfl, rfl, rfl, rfl, rfl, rfl, rfl, rfl, trivial⟩, H, by omega, by omega, (by intro j hj; omega)⟩
    rintro k F s1 ⟨G, i, rfl, H, hi, rfl, hall⟩
    refine ze (za rfl (yg rfl rfl (fun h => ?_) (fun h => ?_)))
    ·refine zb (zx (zq rfl (zD (zj (zx (zL (ze (za rfl (zf rfl ?_)))))))))
     obtain ⟨e1, oo1, d1, he1, hg1, hb1, hc1⟩ := (h1.kept H).atD (i := (i : Int)) (k := i) rfl (by omega)
     cases he1
     refine za rfl (zB qL rfl rfl (by omega) (by omega) (za rfl (zl yx rfl hg1 hc1 (za rfl (zk rfl (za rfl (zk rfl (zb (zx (ze (za rfl (zf rfl (za rfl (zm rfl (za rfl (zf rfl (za rfl (zy rfl fc42 rfl ?_))))))))))))))))))
     obtain ⟨_, s9, hr, rfl, Hc⟩ := needs_ok (x := (ks.getD i 0)) (bad := bad) hI H.fine (hJ.kept H) hj hjl (by have := H.most; omega)
     refine ⟨_, _, hr, ?_⟩
     clear hr
     have H := H.call0 Hc
     clear Hc
     cases hnd : yl (ks.getD i 0) bad 0 js
     ·refine za rfl (yC rfl (zb (zq rfl (zx (ze (za rfl (zg of36_1 rfl (za rfl (zl yW rfl H.own0 rfl (za rfl (zf rfl ?_)))))))))))
      obtain ⟨e2, oo2, d2, he2, hg2, hb2, hc2⟩ := (h2.kept H).atD (i := (i : Int)) (k := i) rfl (by omega)
      cases he2
      refine za rfl (zB xP rfl rfl (by omega) (by omega) (za rfl (zl sh3 rfl hg2 hc2 (za rfl (yM rfl rfl (fun h => ?_) (fun h => ?_))))))
      ·refine zb (zq rfl (ze (za rfl (zh (za rfl (zh (zb (zu (zn (zn (zt (zn (zJ ?_)))))))))))))
       refine zt (zn (zp (yE rfl rfl (⟨0, false, rfl, (fun h => by cases h), (fun _ hh => ?_), (H.sub (List.nil_sublist _)).up (by omega)⟩))))
       exact h (hh.1.none i (by omega) hnd)
      refine zb (zv rfl (zD (zj (yi (zU (z8 (zj (zF (za rfl (zZ rfl rfl (by unfold zS; omega) (za rfl (zf rfl (zb ?_)))))))))))))
      refine zO (⟨ks.length - (i + 1), by omega, _, i + 1, yf ⟨rfl, rfl, rfl, rfl, rfl, rfl, rfl, rfl, rfl, trivial⟩, H.up (by omega), by omega, rfl, ?_⟩)
      intro j hj
      by_cases hj2 : j < i
      ·exact hall j hj2
      ·obtain rfl : j = i := by omega
       exact ⟨fun _ => (by omega), fun hn => (by rw [hnd] at hn; cases hn)⟩
     refine za rfl (yC rfl (zb (zv rfl (zD (zj ?_)))))
     obtain ⟨N1, hN1⟩ : ∃ N1, N1 = N0 + 60 * i + 40 := ⟨_, rfl⟩
     rw [← hN1] at H
     refine ze (za rfl (zm rfl (za rfl (z7 qF rfl rfl rfl (za rfl (xL (zb (zL (yB (fun k F s1 => ∃ (G : FF) (q : Nat), F = lay G [(1, .int .i64 w), (2, .slice ja js.length jcp), (3, .int .i64 bad), (4, .slice ma may.length mcp), (5, ptr b5), (12, .func (.func 99) #[] #[ptr b5]), (53, .slice (some ⟨e1, oo1, none⟩) ks.length c1), (54, .int .i64 (ks.length : Int)), (55, .int .i64 (i : Int)), (13, .int .i64 (i : Int)), (14, .int .i64 (ks.getD i 0)), (71, .slice ma may.length mcp), (72, .int .i64 (may.length : Int)), (73, .int .i64 (q : Int))] ∧ HL [] s s1 [(b5, .cells [.slice (some ⟨e1, oo1, none⟩) ks.length c1, .slice a2 ns.length c2] 36)] (N1 + q) ∧ q ≤ may.length ∧ k = may.length - q ∧ (∀ m ∈ may.take q, m.w = (ks.getD i 0) → m.p ∈ ks ∧ zI m.w m.p ∈ ks ∧ ns.getD i 0 ≤ 1 + atP ks ns m.p + atP ks ns (zI m.w m.p))) ?_ may.length _ _ ?_)))))))))
     rotate_left
     ·exact ⟨_, 0, yf ⟨rfl, rfl, rfl, rfl, rfl, rfl, rfl, rfl, rfl, rfl, rfl, rfl, rfl, rfl, trivial⟩, H, by omega, by omega, (by intro m hmm; simp at hmm)⟩
     rintro k F s1 ⟨G, q, rfl, H, hq, rfl, hlow⟩
     refine ze (za rfl (yg rfl rfl (fun h => ?_) (fun h => ?_)))
     ·refine zb (zx (zq rfl (zD (zj (zx (zL (ze ?_)))))))
      obtain ⟨em, oom, dm, hem, hgm, hbm, hcm⟩ := (hM.kept H).atS (i := (q : Int)) (k := q) rfl (by omega)
      cases hem
      refine za rfl (zB el25 rfl rfl (by omega) (by omega) (za rfl (ya sh62 rfl hgm hcm (za rfl (z6 H zf62 (by omega) (fun b16 s2 H => ?_))))))
      refine za rfl (zX (vs := [.int _ _, .int _ _, .bool _, .slice _ _ _, .bool _, .slice _ _ _, .bool _, .slice _ _ _, .bool _, .slice _ _ _]) H sz62 rfl rfl rfl rfl rfl (by omega) (fun s3 H => ?_))
      refine zb (zx (ze (za rfl (zg xT rfl (za rfl (zl yx rfl H.own0 rfl (za rfl (zf rfl (za rfl (yM rfl rfl (fun h => ?_) (fun h => ?_)))))))))))
      ·refine zb (zq rfl (yi (zU (z8 (zj (zF (za rfl (zZ rfl rfl (by unfold zS; omega) (za rfl (zf rfl (zb (zO (⟨may.length - (q + 1), by omega, _, q + 1, yf ⟨rfl, rfl, rfl, rfl, rfl, rfl, rfl, rfl, rfl, rfl, rfl, rfl, rfl, rfl, trivial⟩, H.drop0.up (by omega), by omega, rfl, ?_⟩)))))))))))))
       intro m hmm hmw
       rcases yu (show q < may.length by omega) hmm with hmm | hmm
       ·exact hlow m hmm hmw
       ·subst hmm; exact absurd hmw h
      refine zb (zv rfl (zD (zj ?_)))
      have hxS : (may.getD q default).w = (ks.getD i 0) := by simpa using h
      refine ze (za rfl (xh rfl (za rfl (zg y9 rfl (za rfl (zl yx rfl H.own0 rfl (za rfl (zy rfl fc99 rfl ?_))))))))
      obtain ⟨_, s9, hr, n1, bt1, rfl, h1t, h1f, hs9⟩ := at_ok2 (x := (may.getD q default).p) hI H.own1 (h1.kept H) (h2.kept H) hinc hln (by omega)
      rw [hs9] at hr
      refine ⟨_, _, hr, ?_⟩
      clear hr
      cases bt1
      ·refine za rfl (yq rfl (za rfl (zE rfl rfl (za rfl (zE rfl rfl (za rfl (zk rfl (za rfl (zr rfl (zb (ze (za rfl (xh rfl (za rfl (zf rfl (za rfl (zg y9 rfl (za rfl (zl yx rfl H.own0 rfl (za rfl (x7 rfl rfl ?_)))))))))))))))))))))
       refine za rfl (zy rfl fc99 rfl ?_)
       obtain ⟨_, s9, hr, n2, bt2, rfl, h2t, h2f, hs9⟩ := at_ok2 (x := zI (ks.getD i 0) (may.getD q default).p) hI H.own1 (h1.kept H) (h2.kept H) hinc hln (by omega)
       rw [hs9] at hr
       refine ⟨_, _, hr, ?_⟩
       clear hr
       cases bt2
       ·refine za rfl (yq rfl (za rfl (zE rfl rfl (za rfl (zE rfl rfl (za rfl (zk rfl (za rfl (zr rfl (zb (ze (za rfl (zi rfl (za rfl (yC rfl (za rfl (zi rfl (zc rfl (zc rfl ?_)))))))))))))))))))
        refine za rfl (zC rfl (za rfl (zi rfl (zc rfl (zc rfl (zc rfl (zc rfl (zc rfl (zc rfl (zc rfl (zc rfl (zc rfl (zc rfl ?_)))))))))))))
        refine za rfl (zC rfl (zb (zq rfl (ze (za rfl (zh (za rfl (zh (zb (zu (zt (zn (zJ (zt ?_))))))))))))))
        refine zt (zn (zJ (zt (zn (zp (yE rfl rfl (⟨0, false, rfl, (fun h => by cases h), (fun _ hh => ?_), (H.sub (List.nil_sublist _)).up (by omega)⟩)))))))
        have hlow := hh.1.low i (by omega) hnd (may.getD q default) (zR (by omega)) hxS
        first
         | (have := (h1f rfl).1; exact this hlow.1)
         | (have := (h2f rfl).1; rw [hxS] at hlow; exact this hlow.2.1)
         | (have e1 := (h1t rfl).2; have e2 := (h2t rfl).2; rw [hxS] at hlow; omega)
       refine za rfl (yq rfl (za rfl (zE rfl rfl (za rfl (zE rfl rfl (za rfl (zk rfl (za rfl (zr rfl (zb (ze (za rfl (zi rfl (za rfl (yC rfl (za rfl (zi rfl (zc rfl (zc rfl ?_)))))))))))))))))))
       refine za rfl (zC rfl (za rfl (zi rfl (zc rfl (zc rfl (zc rfl (zc rfl (zc rfl (zc rfl (zc rfl (zc rfl (zc rfl (zc rfl ?_)))))))))))))
       refine za rfl (zC rfl (zb (zq rfl (ze (za rfl (zh (za rfl (zh (zb (zu (zt (zn (zJ (zt ?_))))))))))))))
       refine zt (zn (zJ (zt (zn (zp (yE rfl rfl (⟨0, false, rfl, (fun h => by cases h), (fun _ hh => ?_), (H.sub (List.nil_sublist _)).up (by omega)⟩)))))))
       have hlow := hh.1.low i (by omega) hnd (may.getD q default) (zR (by omega)) hxS
       first
        | (have := (h1f rfl).1; exact this hlow.1)
        | (have := (h2f rfl).1; rw [hxS] at hlow; exact this hlow.2.1)
        | (have e1 := (h1t rfl).2; have e2 := (h2t rfl).2; rw [hxS] at hlow; omega)
      refine za rfl (yq rfl (za rfl (zE rfl rfl (za rfl (zE rfl rfl (za rfl (zk rfl (za rfl (zr rfl (zb (ze (za rfl (xh rfl (za rfl (zf rfl (za rfl (zg y9 rfl (za rfl (zl yx rfl H.own0 rfl (za rfl (x7 rfl rfl ?_)))))))))))))))))))))
      refine za rfl (zy rfl fc99 rfl ?_)
      obtain ⟨_, s9, hr, n2, bt2, rfl, h2t, h2f, hs9⟩ := at_ok2 (x := zI (ks.getD i 0) (may.getD q default).p) hI H.own1 (h1.kept H) (h2.kept H) hinc hln (by omega)
      rw [hs9] at hr
      refine ⟨_, _, hr, ?_⟩
      clear hr
      cases bt2
      ·refine za rfl (yq rfl (za rfl (zE rfl rfl (za rfl (zE rfl rfl (za rfl (zk rfl (za rfl (zr rfl (zb (ze (za rfl (zi rfl (za rfl (yC rfl (za rfl (zi rfl (za rfl (zi rfl (za rfl (yC rfl ?_)))))))))))))))))))))
       refine za rfl (zw rfl rfl (za rfl (zi rfl (zc rfl (zc rfl (zc rfl (zc rfl (zc rfl (zc rfl (zc rfl (zc rfl (zc rfl (zc rfl ?_)))))))))))))
       refine za rfl (zC rfl (zb (zq rfl (ze (za rfl (zh (za rfl (zh (zb (zu (zt (zn (zJ (zt ?_))))))))))))))
       refine zt (zn (zJ (zt (zn (zp (yE rfl rfl (⟨0, false, rfl, (fun h => by cases h), (fun _ hh => ?_), (H.sub (List.nil_sublist _)).up (by omega)⟩)))))))
       have hlow := hh.1.low i (by omega) hnd (may.getD q default) (zR (by omega)) hxS
       first
        | (have := (h1f rfl).1; exact this hlow.1)
        | (have := (h2f rfl).1; rw [hxS] at hlow; exact this hlow.2.1)
        | (have e1 := (h1t rfl).2; have e2 := (h2t rfl).2; rw [hxS] at hlow; omega)
      refine za rfl (yq rfl (za rfl (zE rfl rfl (za rfl (zE rfl rfl (za rfl (zk rfl (za rfl (zr rfl (zb (ze (za rfl (zi rfl (za rfl (yC rfl (za rfl (zi rfl (za rfl (zi rfl (za rfl (yC rfl ?_)))))))))))))))))))))
      refine za rfl (zw rfl rfl (za rfl (zi rfl ?_)))
      have hr1 : 0 ≤ n1 ∧ n1 ≤ 65536 := by rw [(h1t rfl).2]; have := hnum _ (atP_mem hinc hln (h1t rfl).1); omega
      have hr2 : 0 ≤ n2 ∧ n2 ≤ 65536 := by rw [(h2t rfl).2]; have := hnum _ (atP_mem hinc hln (h2t rfl).1); omega
      have hr3 := hnum (ns.getD i 0) (zR (by omega))
      refine za rfl (zg of36_1 rfl (za rfl (zl yW rfl H.own1 rfl (za rfl (zf rfl ?_)))))
      obtain ⟨e2, oo2, d2, he2, hg2, hb2, hc2⟩ := (h2.kept H).atD (i := (i : Int)) (k := i) rfl (by omega)
      cases he2
      refine za rfl (zB xP rfl rfl (by omega) (by omega) (za rfl (zl sh3 rfl hg2 hc2 (za rfl (xm rfl rfl (by unfold zS; omega) (za rfl (zf rfl (za rfl (zf rfl (za rfl (zZ rfl rfl (by unfold zS; omega) (za rfl (yz rfl rfl (fun h => ?_) (fun h => ?_))))))))))))))
      ·refine za rfl (zw rfl rfl (zb (zq rfl (ze (za rfl (zh (za rfl (zh (zb (zu (zt (zn (zJ (zt ?_))))))))))))))
       refine zt (zn (zJ (zt (zn (zp (yE rfl rfl (⟨0, false, rfl, (fun h => by cases h), (fun _ hh => ?_), (H.sub (List.nil_sublist _)).up (by omega)⟩)))))))
       have hlow := hh.1.low i (by omega) hnd (may.getD q default) (zR (by omega)) hxS
       first
        | (have := (h1f rfl).1; exact this hlow.1)
        | (have := (h2f rfl).1; rw [hxS] at hlow; exact this hlow.2.1)
        | (have e1 := (h1t rfl).2; have e2 := (h2t rfl).2; rw [hxS] at hlow; omega)
      refine za rfl (zw rfl rfl (zb (zv rfl (zD (zP (zj (zF (za rfl (zZ rfl rfl (by unfold zS; omega) (za rfl (zf rfl (zb (zO (⟨may.length - (q + 1), by omega, _, q + 1, yf ⟨rfl, rfl, rfl, rfl, rfl, rfl, rfl, rfl, rfl, rfl, rfl, rfl, rfl, rfl, trivial⟩, H.drop0.up (by omega), by omega, rfl, ?_⟩))))))))))))))
      intro m hmm hmw
      rcases yu (show q < may.length by omega) hmm with hmm | hmm
      ·exact hlow m hmm hmw
      ·subst hmm
       have e1 := h1t rfl
       have e2 := h2t rfl
       rw [hxS]
       exact ⟨e1.1, e2.1, by rw [← e1.2, ← e2.2]; omega⟩
     refine zb (zx (zv rfl (yi (zU (ye (z8 (zP (zj (zF (za rfl (zZ rfl rfl (by unfold zS; omega) (za rfl (zf rfl ?_)))))))))))))
     refine zb (zO (⟨ks.length - (i + 1), by omega, _, i + 1, yf ⟨rfl, rfl, rfl, rfl, rfl, rfl, rfl, rfl, rfl, trivial⟩, H.up (by omega), by omega, rfl, ?_⟩))
     intro j hj
     by_cases hj2 : j < i
     ·exact hall j hj2
     ·obtain rfl : j = i := by omega
      rw [List.take_of_length_le (by omega)] at hlow
      exact ⟨fun hn => (by rw [hnd] at hn; cases hn), fun _ => hlow⟩
    refine zb (zx (zv rfl (yi (zU (ye (z8 (zj (ze (za rfl (xh rfl (za rfl (zf rfl (za rfl (zy rfl fc99 rfl ?_))))))))))))))
    obtain ⟨_, s9, hr, nw, bw, rfl, hwt, hwf, hs9⟩ := at_ok2 (x := w) hI H.own0 (h1.kept H) (h2.kept H) hinc hln (by omega)
    rw [hs9] at hr
    refine ⟨_, _, hr, ?_⟩
    clear hr
    refine za rfl (zE rfl rfl (za rfl (zE rfl rfl (za rfl (zk rfl (za rfl (zr rfl (zb (zu (zp (yE rfl rfl ?_)))))))))))
    have hL : Lev js bad may ks ns := ⟨hln, hinc, fun y hy => by have := hset y hy; omega, fun y hy => by have := hnum y hy; omega, fun j hj hn => (hall j (by omega)).1 hn, fun j hj hn => (hall j (by omega)).2 hn⟩
    exact ⟨nw, bw, rfl, (fun hb => ⟨hL, (hwt hb).1, (hwt hb).2⟩), (fun hb hh => (hwf hb).1 hh.2), (H.sub (List.nil_sublist _)).up (by omega)⟩
   refine zb (zq rfl (ze (za rfl (zh (za rfl (zh (zb (zu (zn (zp (yE rfl rfl (⟨0, false, rfl, (fun h => by cases h), (fun _ hh => ?_), (H.sub (List.nil_sublist _)).up (by omega)⟩))))))))))))
   obtain ⟨y, hy, hyb⟩ := List.any_eq_true.mp hnb
   have := hh.1.num y hy
   simp only [numB, Bool.or_eq_true, decide_eq_true_eq] at hyb
   omega
  refine zb (zq rfl (ze (za rfl (zh (za rfl (zh (zb (zu (zn (zp (yE rfl rfl (⟨0, false, rfl, (fun h => by cases h), (fun _ hh => ?_), (H.sub (List.nil_sublist _)).up (by omega)⟩))))))))))))
  obtain ⟨y, hy, hyb⟩ := List.any_eq_true.mp hsb
  have := hh.1.set y hy
  simp only [setB, Bool.or_eq_true, decide_eq_true_eq] at hyb
  omega
 cases hso
 simp only [List.cons_append, List.nil_append] at H
 refine yn rfl rfl (zy rfl fc97 rfl ?_)
 have hd := H.dist
 simp only [List.pairwise_cons, List.mem_cons, forall_eq_or_imp, ne_eq] at hd
 have Ho := HL.only (X := [b5]) H (by intro p hp; rw [List.mem_singleton] at hp; rw [hp]; exact ⟨H.lt1, fun e => hd.1.1 e.symm⟩)
 have hoo := Ho.own _ (List.mem_singleton.mpr rfl)
 obtain ⟨_, s9, hr, ra, rn, rc, c2x, rfl, Hc, hap⟩ := compact_ok hI Ho.fine hoo.1 hoo.2.1 hoo.2.2.1 hcc (by omega) (by have hmo := H.most; (try simp only at hmo); show _ ≤ _; (try simp only); omega)
 refine ⟨_, _, hr, ?_⟩
 clear hr Ho hoo
 have H := HL.callW (A := [_]) H (HL.wider H.fine (Nat.le_refl _) (fun _ h => List.mem_append_right _ h) Hc) (by intro b hb; rw [List.mem_singleton] at hb; subst hb; exact ⟨_, List.mem_singleton.mpr rfl⟩) (by intro p hp; rw [List.mem_singleton] at hp; subst hp; simp)
 clear Hc
 simp only [List.cons_append, List.nil_append] at H
 refine zd rfl rfl (z7 un31 rfl rfl rfl ⟨rfl, (zd rfl rfl (yM rfl rfl (fun h => ⟨rfl, ?_⟩) (fun h => ⟨rfl, ?_⟩)))⟩)
 ·refine zd rfl rfl (zw rfl rfl ⟨rfl, (zV (zq rfl (ze (za rfl (zh (za rfl (zh (zb (zu (zn (zp (yE rfl rfl (⟨0, false, rfl, (fun h => by cases h), (fun _ hh => ?_), (H.sub (List.nil_sublist _)).up (by omega)⟩)))))))))))))⟩)
  first
   | (have := hh.1.len; omega)
   | (have := hap.mpr (xx hh.1.inc).2; omega)
   | (have := hbs.mpr (xx hh.1.inc).1; cases this)
 refine zd rfl rfl (zw rfl rfl ⟨rfl, (zV (zv rfl (zD (zj ?_))))⟩)
 have hln : ks.length = ns.length := by omega
 have hinc : Inc ks := by first | (rw [hl0]; exact .nil) | exact inc_of (hbs.mp rfl) (hap.mp (by omega))
 refine ze (za rfl (op_makeFunc (za rfl (op_assignF rfl (zb (zx (ze (za rfl (zg qX rfl (za rfl (zl qe rfl H.own1 rfl (za rfl (zy rfl fc101 rfl ?_)))))))))))))
 obtain ⟨_, s9, hr, rfl, hs9⟩ := setAny_ok hI (h1.kept H) (by omega)
 rw [hs9] at hr
 refine ⟨_, _, hr, ?_⟩
 clear hr
 cases hsb : ks.any setB
 ·refine zb (zv rfl (zD (zj (zx (ze (za rfl (zg of36_1 rfl (za rfl (zl yW rfl H.own1 rfl (za rfl (zy rfl fc103 rfl ?_)))))))))))
  obtain ⟨_, s9, hr, rfl, hs9⟩ := numAny_ok hI (h2.kept H) (by omega)
  rw [hs9] at hr
  refine ⟨_, _, hr, ?_⟩
  clear hr
  cases hnb : ns.any numB
  ·refine zb (zv rfl (zD (zj (zx ?_))))
   have H := (H.sub (L' := [(b5, .cells [.slice a1 ks.length c1, .slice a2 ns.length c2] 36)]) (by exact .cons _ (List.Sublist.refl _))).up (show _ ≤ 5 by omega)
   obtain ⟨N0, hN0⟩ : ∃ N0, N0 = 5 := ⟨_, rfl⟩
   rw [← hN0] at H
   have hset : ∀ y ∈ ks, ¬ (y < 1 ∨ 65536 ≤ y) := fun y hy hc => by have : ks.any setB = true := List.any_eq_true.mpr ⟨y, hy, by simpa [setB] using hc⟩; rw [hsb] at this; cases this
   have hnum : ∀ y ∈ ns, ¬ (y < 0 ∨ 65536 < y) := fun y hy hc => by have : ns.any numB = true := List.any_eq_true.mpr ⟨y, hy, by simpa [numB] using hc⟩; rw [hnb] at this; cases this
   refine ze (za rfl (zg qX rfl (za rfl (zl qe rfl H.own0 rfl (za rfl (z7 un31 rfl rfl rfl (za rfl (xL (zb (zL (yB (fun k F s1 => ∃ (G : FF) (i : Nat), F = lay G [(1, .int .i64 w), (2, .slice ja js.length jcp), (3, .int .i64 bad), (4, .slice ma may.length mcp), (5, ptr b5), (12, .func (.func 99) #[] #[ptr b5]), (53, .slice a1 ks.length c1), (54, .int .i64 (ks.length : Int)), (55, .int .i64 (i : Int))] ∧ HL [] s s1 [(b5, .cells [.slice a1 ks.length c1, .slice a2 ns.length c2] 36)] (N0 + 60 * i) ∧ i ≤ ks.length ∧ k = ks.length - i ∧ (∀ j, j < i → (yl (ks.getD j 0) bad 0 js = false → ns.getD j 0 = 0) ∧ (yl (ks.getD j 0) bad 0 js = true → ∀ m ∈ may, m.w = ks.getD j 0 → m.p ∈ ks ∧ zI m.w m.p ∈ ks ∧ ns.getD j 0 ≤ 1 + atP ks ns m.p + atP ks ns (zI m.w m.p)))) ?_ ks.length _ _ ?_)))))))))))
   rotate_left
   ·exact ⟨_, 0, yf ⟨rfl, rfl, rfl, rfl, rfl, rfl, rfl, rfl, rfl, trivial⟩, H, by omega, by omega, (by intro j hj; omega)⟩
   rintro k F s1 ⟨G, i, rfl, H, hi, rfl, hall⟩
   refine ze (za rfl (yg rfl rfl (fun h => ?_) (fun h => ?_)))
   ·refine zb (zx (zq rfl (zD (zj (zx (zL (ze (za rfl (zf rfl ?_)))))))))
    obtain ⟨e1, oo1, d1, he1, hg1, hb1, hc1⟩ := (h1.kept H).atD (i := (i : Int)) (k := i) rfl (by omega)
    cases he1
    refine za rfl (zB qL rfl rfl (by omega) (by omega) (za rfl (zl yx rfl hg1 hc1 (za rfl (zk rfl (za rfl (zk rfl (zb (zx (ze (za rfl (zf rfl (za rfl (zm rfl (za rfl (zf rfl (za rfl (zy rfl fc42 rfl ?_))))))))))))))))))
    obtain ⟨_, s9, hr, rfl, Hc⟩ := needs_ok (x := (ks.getD i 0)) (bad := bad) hI H.fine (hJ.kept H) hj hjl (by have := H.most; omega)
    refine ⟨_, _, hr, ?_⟩
    clear hr
    have H := H.call0 Hc
    clear Hc
    cases hnd : yl (ks.getD i 0) bad 0 js
    ·refine za rfl (yC rfl (zb (zq rfl (zx (ze (za rfl (zg of36_1 rfl (za rfl (zl yW rfl H.own0 rfl (za rfl (zf rfl ?_)))))))))))
     obtain ⟨e2, oo2, d2, he2, hg2, hb2, hc2⟩ := (h2.kept H).atD (i := (i : Int)) (k := i) rfl (by omega)
     cases he2
     refine za rfl (zB xP rfl rfl (by omega) (by omega) (za rfl (zl sh3 rfl hg2 hc2 (za rfl (yM rfl rfl (fun h => ?_) (fun h => ?_))))))
     ·refine zb (zq rfl (ze (za rfl (zh (za rfl (zh (zb (zu (zn (zn (zt (zn (zJ ?_)))))))))))))
      refine zt (zn (zp (yE rfl rfl (⟨0, false, rfl, (fun h => by cases h), (fun _ hh => ?_), (H.sub (List.nil_sublist _)).up (by omega)⟩))))
      exact h (hh.1.none i (by omega) hnd)
     refine zb (zv rfl (zD (zj (yi (zU (z8 (zj (zF (za rfl (zZ rfl rfl (by unfold zS; omega) (za rfl (zf rfl (zb ?_)))))))))))))
     refine zO (⟨ks.length - (i + 1), by omega, _, i + 1, yf ⟨rfl, rfl, rfl, rfl, rfl, rfl, rfl, rfl, rfl, trivial⟩, H.up (by omega), by omega, rfl, ?_⟩)
     intro j hj
     by_cases hj2 : j < i
     ·exact hall j hj2
     ·obtain rfl : j = i := by omega
      exact ⟨fun _ => (by omega), fun hn => (by rw [hnd] at hn; cases hn)⟩
    refine za rfl (yC rfl (zb (zv rfl (zD (zj ?_)))))
    obtain ⟨N1, hN1⟩ : ∃ N1, N1 = N0 + 60 * i + 40 := ⟨_, rfl⟩
    rw [← hN1] at H
    refine ze (za rfl (zm rfl (za rfl (z7 qF rfl rfl rfl (za rfl (xL (zb (zL (yB (fun k F s1 => ∃ (G : FF) (q : Nat), F = lay G [(1, .int .i64 w), (2, .slice ja js.length jcp), (3, .int .i64 bad), (4, .slice ma may.length mcp), (5, ptr b5), (12, .func (.func 99) #[] #[ptr b5]), (53, .slice (some ⟨e1, oo1, none⟩) ks.length c1), (54, .int .i64 (ks.length : Int)), (55, .int .i64 (i : Int)), (13, .int .i64 (i : Int)), (14, .int .i64 (ks.getD i 0)), (71, .slice ma may.length mcp), (72, .int .i64 (may.length : Int)), (73, .int .i64 (q : Int))] ∧ HL [] s s1 [(b5, .cells [.slice (some ⟨e1, oo1, none⟩) ks.length c1, .slice a2 ns.length c2] 36)] (N1 + q) ∧ q ≤ may.length ∧ k = may.length - q ∧ (∀ m ∈ may.take q, m.w = (ks.getD i 0) → m.p ∈ ks ∧ zI m.w m.p ∈ ks ∧ ns.getD i 0 ≤ 1 + atP ks ns m.p + atP ks ns (zI m.w m.p))) ?_ may.length _ _ ?_)))))))))
    rotate_left
    ·exact ⟨_, 0, yf ⟨rfl, rfl, rfl, rfl, rfl, rfl, rfl, rfl, rfl, rfl, rfl, rfl, rfl, rfl, trivial⟩, H, by omega, by omega, (by intro m hmm; simp at hmm)⟩
    rintro k F s1 ⟨G, q, rfl, H, hq, rfl, hlow⟩
    refine ze (za rfl (yg rfl rfl (fun h => ?_) (fun h => ?_)))
    ·refine zb (zx (zq rfl (zD (zj (zx (zL (ze ?_)))))))
     obtain ⟨em, oom, dm, hem, hgm, hbm, hcm⟩ := (hM.kept H).atS (i := (q : Int)) (k := q) rfl (by omega)
     cases hem
     refine za rfl (zB el25 rfl rfl (by omega) (by omega) (za rfl (ya sh62 rfl hgm hcm (za rfl (z6 H zf62 (by omega) (fun b16 s4 H => ?_))))))
     refine za rfl (zX (vs := [.int _ _, .int _ _, .bool _, .slice _ _ _, .bool _, .slice _ _ _, .bool _, .slice _ _ _, .bool _, .slice _ _ _]) H sz62 rfl rfl rfl rfl rfl (by omega) (fun s5 H => ?_))
     refine zb (zx (ze (za rfl (zg xT rfl (za rfl (zl yx rfl H.own0 rfl (za rfl (zf rfl (za rfl (yM rfl rfl (fun h => ?_) (fun h => ?_)))))))))))
     ·refine zb (zq rfl (yi (zU (z8 (zj (zF (za rfl (zZ rfl rfl (by unfold zS; omega) (za rfl (zf rfl (zb (zO (⟨may.length - (q + 1), by omega, _, q + 1, yf ⟨rfl, rfl, rfl, rfl, rfl, rfl, rfl, rfl, rfl, rfl, rfl, rfl, rfl, rfl, trivial⟩, H.drop0.up (by omega), by omega, rfl, ?_⟩)))))))))))))
      intro m hmm hmw
      rcases yu (show q < may.length by omega) hmm with hmm | hmm
      ·exact hlow m hmm hmw
      ·subst hmm; exact absurd hmw h
     refine zb (zv rfl (zD (zj ?_)))
     have hxS : (may.getD q default).w = (ks.getD i 0) := by simpa using h
     refine ze (za rfl (xh rfl (za rfl (zg y9 rfl (za rfl (zl yx rfl H.own0 rfl (za rfl (zy rfl fc99 rfl ?_))))))))
     obtain ⟨_, s9, hr, n1, bt1, rfl, h1t, h1f, hs9⟩ := at_ok2 (x := (may.getD q default).p) hI H.own1 (h1.kept H) (h2.kept H) hinc hln (by omega)
     rw [hs9] at hr
     refine ⟨_, _, hr, ?_⟩
     clear hr
     cases bt1
     ·refine za rfl (yq rfl (za rfl (zE rfl rfl (za rfl (zE rfl rfl (za rfl (zk rfl (za rfl (zr rfl (zb (ze (za rfl (xh rfl (za rfl (zf rfl (za rfl (zg y9 rfl (za rfl (zl yx rfl H.own0 rfl (za rfl (x7 rfl rfl ?_)))))))))))))))))))))
      refine za rfl (zy rfl fc99 rfl ?_)
      obtain ⟨_, s9, hr, n2, bt2, rfl, h2t, h2f, hs9⟩ := at_ok2 (x := zI (ks.getD i 0) (may.getD q default).p) hI H.own1 (h1.kept H) (h2.kept H) hinc hln (by omega)
      rw [hs9] at hr
      refine ⟨_, _, hr, ?_⟩
      clear hr
      cases bt2
      ·refine za rfl (yq rfl (za rfl (zE rfl rfl (za rfl (zE rfl rfl (za rfl (zk rfl (za rfl (zr rfl (zb (ze (za rfl (zi rfl (za rfl (yC rfl (za rfl (zi rfl (zc rfl (zc rfl ?_)))))))))))))))))))
       refine za rfl (zC rfl (za rfl (zi rfl (zc rfl (zc rfl (zc rfl (zc rfl (zc rfl (zc rfl (zc rfl (zc rfl (zc rfl (zc rfl ?_)))))))))))))
       refine za rfl (zC rfl (zb (zq rfl (ze (za rfl (zh (za rfl (zh (zb (zu (zt (zn (zJ (zt ?_))))))))))))))
       refine zt (zn (zJ (zt (zn (zp (yE rfl rfl (⟨0, false, rfl, (fun h => by cases h), (fun _ hh => ?_), (H.sub (List.nil_sublist _)).up (by omega)⟩)))))))
       have hlow := hh.1.low i (by omega) hnd (may.getD q default) (zR (by omega)) hxS
       first
        | (have := (h1f rfl).1; exact this hlow.1)
        | (have := (h2f rfl).1; rw [hxS] at hlow; exact this hlow.2.1)
        | (have e1 := (h1t rfl).2; have e2 := (h2t rfl).2; rw [hxS] at hlow; omega)
      refine za rfl (yq rfl (za rfl (zE rfl rfl (za rfl (zE rfl rfl (za rfl (zk rfl (za rfl (zr rfl (zb (ze (za rfl (zi rfl (za rfl (yC rfl (za rfl (zi rfl (zc rfl (zc rfl ?_)))))))))))))))))))
      refine za rfl (zC rfl (za rfl (zi rfl (zc rfl (zc rfl (zc rfl (zc rfl (zc rfl (zc rfl (zc rfl (zc rfl (zc rfl (zc rfl ?_)))))))))))))
      refine za rfl (zC rfl (zb (zq rfl (ze (za rfl (zh (za rfl (zh (zb (zu (zt (zn (zJ (zt ?_))))))))))))))
      refine zt (zn (zJ (zt (zn (zp (yE rfl rfl (⟨0, false, rfl, (fun h => by cases h), (fun _ hh => ?_), (H.sub (List.nil_sublist _)).up (by omega)⟩)))))))
      have hlow := hh.1.low i (by omega) hnd (may.getD q default) (zR (by omega)) hxS
      first
       | (have := (h1f rfl).1; exact this hlow.1)
       | (have := (h2f rfl).1; rw [hxS] at hlow; exact this hlow.2.1)
       | (have e1 := (h1t rfl).2; have e2 := (h2t rfl).2; rw [hxS] at hlow; omega)
     refine za rfl (yq rfl (za rfl (zE rfl rfl (za rfl (zE rfl rfl (za rfl (zk rfl (za rfl (zr rfl (zb (ze (za rfl (xh rfl (za rfl (zf rfl (za rfl (zg y9 rfl (za rfl (zl yx rfl H.own0 rfl (za rfl (x7 rfl rfl ?_)))))))))))))))))))))
     refine za rfl (zy rfl fc99 rfl ?_)
     obtain ⟨_, s9, hr, n2, bt2, rfl, h2t, h2f, hs9⟩ := at_ok2 (x := zI (ks.getD i 0) (may.getD q default).p) hI H.own1 (h1.kept H) (h2.kept H) hinc hln (by omega)
     rw [hs9] at hr
     refine ⟨_, _, hr, ?_⟩
     clear hr
     cases bt2
     ·refine za rfl (yq rfl (za rfl (zE rfl rfl (za rfl (zE rfl rfl (za rfl (zk rfl (za rfl (zr rfl (zb (ze (za rfl (zi rfl (za rfl (yC rfl (za rfl (zi rfl (za rfl (zi rfl (za rfl (yC rfl ?_)))))))))))))))))))))
      refine za rfl (zw rfl rfl (za rfl (zi rfl (zc rfl (zc rfl (zc rfl (zc rfl (zc rfl (zc rfl (zc rfl (zc rfl (zc rfl (zc rfl ?_)))))))))))))
      refine za rfl (zC rfl (zb (zq rfl (ze (za rfl (zh (za rfl (zh (zb (zu (zt (zn (zJ (zt ?_))))))))))))))
      refine zt (zn (zJ (zt (zn (zp (yE rfl rfl (⟨0, false, rfl, (fun h => by cases h), (fun _ hh => ?_), (H.sub (List.nil_sublist _)).up (by omega)⟩)))))))
      have hlow := hh.1.low i (by omega) hnd (may.getD q default) (zR (by omega)) hxS
      first
       | (have := (h1f rfl).1; exact this hlow.1)
       | (have := (h2f rfl).1; rw [hxS] at hlow; exact this hlow.2.1)
       | (have e1 := (h1t rfl).2; have e2 := (h2t rfl).2; rw [hxS] at hlow; omega)
     refine za rfl (yq rfl (za rfl (zE rfl rfl (za rfl (zE rfl rfl (za rfl (zk rfl (za rfl (zr rfl (zb (ze (za rfl (zi rfl (za rfl (yC rfl (za rfl (zi rfl (za rfl (zi rfl (za rfl (yC rfl ?_)))))))))))))))))))))
     refine za rfl (zw rfl rfl (za rfl (zi rfl ?_)))
     have hr1 : 0 ≤ n1 ∧ n1 ≤ 65536 := by rw [(h1t rfl).2]; have := hnum _ (atP_mem hinc hln (h1t rfl).1); omega
     have hr2 : 0 ≤ n2 ∧ n2 ≤ 65536 := by rw [(h2t rfl).2]; have := hnum _ (atP_mem hinc hln (h2t rfl).1); omega
     have hr3 := hnum (ns.getD i 0) (zR (by omega))
     refine za rfl (zg of36_1 rfl (za rfl (zl yW rfl H.own1 rfl (za rfl (zf rfl ?_)))))
     obtain ⟨e2, oo2, d2, he2, hg2, hb2, hc2⟩ := (h2.kept H).atD (i := (i : Int)) (k := i) rfl (by omega)
     cases he2
     refine za rfl (zB xP rfl rfl (by omega) (by omega) (za rfl (zl sh3 rfl hg2 hc2 (za rfl (xm rfl rfl (by unfold zS; omega) (za rfl (zf rfl (za rfl (zf rfl (za rfl (zZ rfl rfl (by unfold zS; omega) (za rfl (yz rfl rfl (fun h => ?_) (fun h => ?_))))))))))))))
     ·refine za rfl (zw rfl rfl (zb (zq rfl (ze (za rfl (zh (za rfl (zh (zb (zu (zt (zn (zJ (zt ?_))))))))))))))
      refine zt (zn (zJ (zt (zn (zp (yE rfl rfl (⟨0, false, rfl, (fun h => by cases h), (fun _ hh => ?_), (H.sub (List.nil_sublist _)).up (by omega)⟩)))))))
      have hlow := hh.1.low i (by omega) hnd (may.getD q default) (zR (by omega)) hxS
      first
       | (have := (h1f rfl).1; exact this hlow.1)
       | (have := (h2f rfl).1; rw [hxS] at hlow; exact this hlow.2.1)
       | (have e1 := (h1t rfl).2; have e2 := (h2t rfl).2; rw [hxS] at hlow; omega)
     refine za rfl (zw rfl rfl (zb (zv rfl (zD (zP (zj (zF (za rfl (zZ rfl rfl (by unfold zS; omega) (za rfl (zf rfl (zb (zO (⟨may.length - (q + 1), by omega, _, q + 1, yf ⟨rfl, rfl, rfl, rfl, rfl, rfl, rfl, rfl, rfl, rfl, rfl, rfl, rfl, rfl, trivial⟩, H.drop0.up (by omega), by omega, rfl, ?_⟩))))))))))))))
     intro m hmm hmw
     rcases yu (show q < may.length by omega) hmm with hmm | hmm
     ·exact hlow m hmm hmw
     ·subst hmm
      have e1 := h1t rfl
      have e2 := h2t rfl
      rw [hxS]
      exact ⟨e1.1, e2.1, by rw [← e1.2, ← e2.2]; omega⟩
    refine zb (zx (zv rfl (yi (zU (ye (z8 (zP (zj (zF (za rfl (zZ rfl rfl (by unfold zS; omega) (za rfl (zf rfl ?_)))))))))))))
    refine zb (zO (⟨ks.length - (i + 1), by omega, _, i + 1, yf ⟨rfl, rfl, rfl, rfl, rfl, rfl, rfl, rfl, rfl, trivial⟩, H.up (by omega), by omega, rfl, ?_⟩))
    intro j hj
    by_cases hj2 : j < i
    ·exact hall j hj2
    ·obtain rfl : j = i := by omega
     rw [List.take_of_length_le (by omega)] at hlow
     exact ⟨fun hn => (by rw [hnd] at hn; cases hn), fun _ => hlow⟩
   refine zb (zx (zv rfl (yi (zU (ye (z8 (zj (ze (za rfl (xh rfl (za rfl (zf rfl (za rfl (zy rfl fc99 rfl ?_))))))))))))))
   obtain ⟨_, s9, hr, nw, bw, rfl, hwt, hwf, hs9⟩ := at_ok2 (x := w) hI H.own0 (h1.kept H) (h2.kept H) hinc hln (by omega)
   rw [hs9] at hr
   refine ⟨_, _, hr, ?_⟩
   clear hr
   refine za rfl (zE rfl rfl (za rfl (zE rfl rfl (za rfl (zk rfl (za rfl (zr rfl (zb (zu (zp (yE rfl rfl ?_)))))))))))
   have hL : Lev js bad may ks ns := ⟨hln, hinc, fun y hy => by have := hset y hy; omega, fun y hy => by have := hnum y hy; omega, fun j hj hn => (hall j (by omega)).1 hn, fun j hj hn => (hall j (by omega)).2 hn⟩
   exact ⟨nw, bw, rfl, (fun hb => ⟨hL, (hwt hb).1, (hwt hb).2⟩), (fun hb hh => (hwf hb).1 hh.2), (H.sub (List.nil_sublist _)).up (by omega)⟩
  refine zb (zq rfl (ze (za rfl (zh (za rfl (zh (zb (zu (zn (zp (yE rfl rfl (⟨0, false, rfl, (fun h => by cases h), (fun _ hh => ?_), (H.sub (List.nil_sublist _)).up (by omega)⟩))))))))))))
  obtain ⟨y, hy, hyb⟩ := List.any_eq_true.mp hnb
  have := hh.1.num y hy
  simp only [numB, Bool.or_eq_true, decide_eq_true_eq] at hyb
  omega
 refine zb (zq rfl (ze (za rfl (zh (za rfl (zh (zb (zu (zn (zp (yE rfl rfl (⟨0, false, rfl, (fun h => by cases h), (fun _ hh => ?_), (H.sub (List.nil_sublist _)).up (by omega)⟩))))))))))))
 obtain ⟨y, hy, hyb⟩ := List.any_eq_true.mp hsb
 have := hh.1.set y hy
 simp only [setB, Bool.or_eq_true, decide_eq_true_eq] at hyb
 omega
end Go.Proofs.YtdejleegamcioaaGreat
