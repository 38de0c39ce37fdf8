/- UndoOrders: for every input it returns true, if Least and the examples are as they should be. -/
import Derived.Test.YtdejleegamcioaaGreatP34
import Derived.Test.YtdejleegamcioaaGreatP23
namespace Go.Proofs.YtdejleegamcioaaGreat
open Go Go.M
theorem fb8 : yw Tryz.f8 (Tryz.f8.body.getD .skip) 1 = true := by kernel_rfl
theorem fc12 : yk Tryz.prog 12 = true := by kernel_rfl
theorem fc17 : yk Tryz.prog 17 = true := by kernel_rfl
theorem fc37 : yk Tryz.prog 37 = true := by kernel_rfl
theorem fc9 : yk Tryz.prog 9 = true := by kernel_rfl
theorem two_pow5 {i : Nat} (h : i < 6) : (1 : Int) ≤ 1 * 2 ^ ((i : Int)).toNat ∧ (1 : Int) * 2 ^ ((i : Int)).toNat ≤ 63 := by
 rw [Int.toNat_natCast]
 have := (by decide : ∀ j : Fin 6, (1 : Int) ≤ 1 * 2 ^ j.val ∧ (1 : Int) * 2 ^ j.val ≤ 63) ⟨i, h⟩
 exact this
theorem ints_app (a b : List Int) : z7 a ++ z7 b = z7 (a ++ b) := by simp [z7]
theorem bt_14 : bt 14 6 = 10173239740 := by kernel_rfl
theorem bt_m {m : Nat} (h : m ≤ 14) : ∀ k, bt m k ≤ bt 14 k
 | 0 => Nat.le_refl _
 | k + 1 => by
  have := bt_m h k
  rw [bt, bt]
  have h2 : m * (2 * bt m k + 20) ≤ 14 * (2 * bt 14 k + 20) := Nat.mul_le_mul h (by omega)
  omega
theorem LIs.twoZ {js : List (Int × Int)} {bad : Int} {may : List Sp} {w : Int} (he : x0 w js bad may = 0) {o : LOut} (h : LIs js bad may w o) : (o.e = 6 ∧ (bb js bad may w).1 = 65536) ∨ (o.e = 0 ∧ (bb js bad may w).1 < 65536 ∧ o.n = (bb js bad may w).1 ∧ o.x = tk js bad may (w.toNat + 1) w) := by
 rcases h with ⟨h, _⟩ | ⟨_, h1, h⟩ | ⟨h1, h2, h3, h4, h5, h6, h7, h8⟩
 ·exact absurd he h
 ·rw [h]; exact .inl ⟨rfl, h1⟩
 ·exact .inr ⟨h8, h2, h7, h6⟩
set_option maxHeartbeats 4000000 in
set_option maxRecDepth 10000 in
theorem undoOrders_ok {I : zJ} (hI : Plain I) (h80 : I 80 = some keysI) (h79 : I 79 = some xa) (hL : LeastG I) (hV : LivesC I) {s : St} (hf : Fine s) {v : Value} {l : List Int} (hl : SlI s v l) (hin : ∀ x ∈ l, zQ x) (hroom : s.next + 100000000000000 ≤ zh) :
  ∃ v' s', yE Tryz.prog I 8 #[v] s v' s' ∧ (v' = .bool true ∧ HL [] s s' [] 100000000000000) := by
 have H := hf.hl
 obtain ⟨sva, svn, svc, rfl, hsvn⟩ := hl.isSlice
 refine zY 1 (hI 8 (by decide) (by decide) (by decide) (by decide)) Tryz.func8 rfl fb8 rfl ?_
 refine zc (za rfl (zk (zb (zc (za rfl (zp rfl (za rfl (zo rfl fc9 rfl ?_))))))))
 obtain ⟨_, s9, hr, D, DD, sj, sm, js, may, n, w, bad, rfl, Hc, hjG, hmG, hn, hjl, hjr, hbad, hml, hmay63⟩ := made63_ok hI H.fine (hl.kept H) hin (by have := H.most; omega)
 refine ⟨_, _, hr, ?_⟩
 clear hr
 have H := H.callE Hc
 clear Hc
 try simp only [List.cons_append, List.nil_append, List.append_assoc] at H
 have hmay : ∀ x ∈ may, qo x.w x.p = true ∧ DirIn DD x := fun x hx => (hmay63 x hx).1
 have hmayI : ∀ x ∈ may, zQ x.w ∧ zQ x.p := fun x hx => by have h := (hmay x hx).1; simp only [qo, Bool.and_eq_true, decide_eq_true_eq] at h; unfold zQ; omega
 have hmk : xh may := fun x hx => valid_split (hmay x hx).1
 have hinp : ∀ x ∈ may, x.p < 9223372036854775808 := fun x hx => (hmk x hx).2
 have hwr := whole_range hn.1 hn.2.1
 rw [← hn.2.2] at hwr
 have hjb := joins_ok hn.2.1 hjr
 have hjj : ∀ j ∈ js, joinB j := fun j hj => (joinsB_all hjb j hj).1
 obtain ⟨sja, sjn, sjc⟩ := sj
 have hsn := hjG.slc
 rw [List.length_map] at hsn
 simp only at hsn
 subst hsn
 obtain ⟨sma, smn, smc⟩ := sm
 have hsn := hmG.slc
 rw [List.length_map] at hsn
 simp only at hsn
 subst hsn
 simp only [Slc.v]
 have hjd := joinsB_all hjb
 refine za rfl (zC H zf27 (by omega) (fun b3 s1 H => ?_))
 refine za rfl (zD (vs := [.int _ _, .slice _ _ _, .int _ _, .slice _ _ _]) H sz27 rfl rfl rfl rfl rfl (by omega) (fun s2 H => ?_))
 refine zb (zc (za rfl (ya (c := []) H sl25 rfl rfl (by omega) (fun b18 s18 H => ?_))))
 refine za rfl (zf of27_3 rfl (za rfl (zj sh25 rfl H.own1 rfl (za rfl (op_appendE H sl25 un25 rfl rfl rfl (hmG.sl H (by intro p hp; (try simp only [List.mem_cons, List.mem_append, List.not_mem_nil, or_false] at hp ⊢); first | exact hp | simp only [hp, true_or, or_true])).elemsS (sps_plain may) (sps_len may) (by omega) (by omega) (fun b21 cap21 s21 H hc21 => ?_))))))
 refine za rfl (yb rfl (zb (zc (za rfl (zf of27_0 rfl (za rfl (zj y1 rfl H.own1 rfl (za rfl (ya (c := [.int _ _]) H sl31 rfl rfl (by omega) (fun b24 s3 H => ?_))))))))))
 refine za rfl (yb rfl (zb (zq ?_)))
 obtain ⟨N0, hN0⟩ : ∃ N0, N0 = 30000000000010 := ⟨_, rfl⟩
 have H := H.up (n' := N0) (by omega)
 have hm21 := spsG (b := b21) (cap := cap21) (l := may) (by omega)
 obtain ⟨T, hT⟩ : ∃ T, T = bt may.length 6 := ⟨_, rfl⟩
 have hT14 : T ≤ 10173239740 := by rw [hT, ← bt_14]; exact bt_m hml 6
 refine zc (za rfl (zk (zb (zI (yP (fun k F s1 => ∃ (G : FF) (i bs cp : Nat) (st : List Int), F = lay G [(3, ptr b3), (4, .slice (some ⟨b21, 0, none⟩) may.length cap21), (5, .slice (some ⟨bs, 0, none⟩) st.length cp), (6, .int .i64 (i : Int))] ∧ HL [] s s1 ((bs, .cells (z7 st) 23) :: ((b21, .cells (spsC may) 62) :: (b3, .cells [.int .i64 w, .slice sja js.length sjc, .int .i64 bad, .slice sma may.length smc] 27) :: (D ++ DD))) (N0 + 2 * i) ∧ cp / 2 = st.length ∧ (∀ x ∈ st, 1 ≤ x ∧ x ≤ 63) ∧ st.length = 1 + i ∧ i ≤ 6 ∧ k = 6 - i) ?_ 6 _ _ ?_)))))
 rotate_left
 ·exact ⟨_, 0, b24, _, [w], yd ⟨rfl, rfl, rfl, rfl, trivial⟩, H.up (by omega), rfl, (fun x hx => by rw [List.mem_singleton] at hx; omega), rfl, by omega, rfl⟩
 rintro k F s1 ⟨G, i, bs, cp, st, rfl, H, hcp, hst, hsl, hi, rfl⟩
 have h5 := two_pow5 (i := i)
 refine zq (zc (za rfl (zd rfl (za rfl (yq rfl rfl (fun h => ?_) (fun h => ?_))))))
 ·refine zb (zE rfl (zA (zi (zq (zI (zv (za rfl (zp rfl (za rfl (zd rfl (za rfl (op_shl rfl rfl (by omega) (by omega) (by have := two_pow5 (i := i) (by omega); unfold zQ; omega) (za rfl (ya (c := [.int _ _]) H sl31 rfl rfl (by omega) (fun b32 s4 H => ?_)))))))))))))))
  refine za rfl (op_append1 H sl31 un31 rfl rfl rfl (yH H.own0 rfl) (by simp [z7]) (by omega) rfl rfl (by omega) (by omega) (fun b33 s33 H => ?_))
  refine za rfl (yb rfl (zb (zP (zi (zv (za rfl (zd rfl (za rfl (zT rfl rfl (by unfold zQ; omega) (za rfl (zm rfl (zb (zN (⟨6 - (i + 1), by omega, _, i + 1, b33, _, st ++ [(1 * 2 ^ ((i : Int)).toNat)], yd ⟨rfl, rfl, by rw [List.length_append]; rfl, rfl, trivial⟩, ?_, ?_, ?_, by rw [List.length_append, hsl]; rfl, by omega, rfl⟩))))))))))))))
  ·rw [← ints_app]
   exact H.drop1.up (by omega)
  ·rw [List.length_append]; simp only [List.length_singleton]; omega
  ·intro x hx
   rcases List.mem_append.mp hx with hx | hx
   ·exact hst x hx
   ·rw [List.mem_singleton] at hx
    have := h5 (by omega)
    omega
 refine zb (zx rfl (yn (zX (yh (ye (zi (zq (zc (za rfl (zk (zb (zI ?_))))))))))))
 refine yP (fun k F s1 => ∃ (G : FF) (i bs cp : Nat) (st : List Int), F = lay G [(3, ptr b3), (4, .slice (some ⟨b21, 0, none⟩) may.length cap21), (5, .slice (some ⟨bs, 0, none⟩) st.length cp), (7, .int .i64 (i : Int))] ∧ HL [] s s1 ((bs, .cells (z7 st) 23) :: ((b21, .cells (spsC may) 62) :: (b3, .cells [.int .i64 w, .slice sja js.length sjc, .int .i64 bad, .slice sma may.length smc] 27) :: (D ++ DD))) (N0 + 20 + 5 * i) ∧ cp / 2 = st.length ∧ (∀ x ∈ st, 1 ≤ x ∧ x ≤ 63) ∧ st.length = 7 + 3 * i ∧ i ≤ may.length ∧ k = may.length - i) ?_ may.length _ _ ?_
 rotate_left
 ·exact ⟨_, 0, bs, cp, st, yd ⟨rfl, rfl, rfl, rfl, trivial⟩, H.up (by omega), hcp, hst, by omega, by omega, by omega⟩
 rintro k F s1 ⟨G, i, bs, cp, st, rfl, H, hcp, hst, hsl, hi, rfl⟩
 refine zq (zc (za rfl (zd rfl (za rfl (zf of27_3 rfl (za rfl (zj sh25 rfl H.own2 rfl (za rfl (yf un25 rfl rfl rfl (za rfl (yq rfl rfl (fun h => ?_) (fun h => ?_))))))))))))
 ·refine zb (zE rfl (zA (zi (zq (zI (cw_draw [⟨0, 0, .light, [2, 6, 8, 12, 14, 17]⟩, ⟨1, 0, .light, [8, 12, 14, 17]⟩, ⟨2, 2, .light, [8, 12, 14, 17]⟩, ⟨3, 0, .light, [2, 8, 12, 14, 17]⟩, ⟨4, 14, .light, [8, 12, 14, 17]⟩, ⟨5, 30, .light, [8, 12, 14, 17]⟩, ⟨6, 62, .light, [8, 12, 14, 17]⟩, ⟨7, 0, .light, [2, 6, 14, 17]⟩, ⟨8, 128, .light, [2, 6, 14, 17]⟩, ⟨9, 0, .light, [2, 6, 8, 14, 17]⟩, ⟨10, 896, .light, [2, 6, 14, 17]⟩, ⟨11, 1920, .light, [2, 6, 14, 17]⟩, ⟨12, 3968, .light, [2, 6, 14, 17]⟩, ⟨13, 0, .light, [2, 6, 8, 12]⟩, ⟨14, 8192, .light, [2, 6, 8, 12]⟩, ⟨15, 0, .light, [2, 6, 8, 12, 14]⟩, ⟨16, 57344, .light, [2, 6, 8, 12]⟩, ⟨17, 122880, .light, [2, 6, 8, 12]⟩, ⟨18, 253952, .whole, [2, 6, 8, 12]⟩, ⟨19, 524286, .whole, []⟩, ⟨20, 1048575, .whole, []⟩, ⟨21, 2097151, .light, []⟩] (by kernel_rfl) (by kernel_rfl) (ze rfl rfl (zp rfl ⟨rfl, (ze rfl rfl (zf of27_3 rfl ⟨rfl, (zy rfl rfl sh25 rfl H.own2 (by exact H.lim2 (by omega)) rfl (ze rfl rfl (zd rfl ⟨rfl, ?_⟩)))⟩))⟩))))))))
  obtain ⟨bm, ofm, cm2, e2, hgm2, hbm3, hcm2⟩ := (hmG.sl H (by intro p hp; (try simp only [List.mem_cons, List.mem_append, List.not_mem_nil, or_false] at hp ⊢); first | exact hp | simp only [hp, true_or, or_true])).atS (i := (i : Int)) (k := i) rfl (by omega)
  cases e2
  obtain ⟨c2, hg2, hw2c, hp2c⟩ := Sl.gotS (hmG.sl H (by intro p hp; (try simp only [List.mem_cons, List.mem_append, List.not_mem_nil, or_false] at hp ⊢); first | exact hp | simp only [hp, true_or, or_true])) (k := i) (by omega)
  refine ze rfl rfl (zM el25 rfl rfl (by omega) (by omega) ⟨rfl, (ze rfl rfl (zf xW rfl ⟨rfl, (zy rfl rfl y1 rfl hg2 (by have := hbm3; have hmo := H.most; omega) hw2c (ze rfl rfl (zf of27_3 rfl ⟨rfl, (zy rfl rfl sh25 rfl H.own2 (by exact H.lim2 (by omega)) rfl (ze rfl rfl (zd rfl ⟨rfl, (ze rfl rfl (zM el25 rfl rfl (by omega) (by omega) ⟨rfl, (ze rfl rfl (zf xv rfl ⟨rfl, (zy rfl rfl y1 rfl hg2 (by have := hbm3; have hmo := H.most; omega) hp2c (ze rfl rfl (zf of27_3 rfl ⟨rfl, (zy rfl rfl sh25 rfl H.own2 (by exact H.lim2 (by omega)) rfl (ze rfl rfl (zd rfl ⟨rfl, ?_⟩)))⟩)))⟩))⟩))⟩)))⟩)))⟩))⟩)
  refine ze rfl rfl (zM el25 rfl rfl (by omega) (by omega) ⟨rfl, (yI rfl rfl sh62 rfl hgm2 (by have := hbm3; have hmo := H.most; omega) hcm2 (zU rfl rfl (zo rfl fc36 rfl ?_)))⟩)
  have hl2 := H.lt2
  obtain ⟨_, s9, hr, rfl, Hc⟩ := rest_ok (x := (may.getD i default)) hI (Fine.narrow (X := [b3, bm, b3, bm]) H.fine (by intro p hp; simp only [List.mem_cons, List.not_mem_nil, or_false] at hp; rcases hp with h | h | h | h <;> rw [h] <;> first | exact hl2 | exact hbm3)) (by have hmo := H.most; show _ + _ ≤ _; simp only; omega)
  refine ⟨_, _, hr, ?_⟩
  clear hr
  have H := x8 H Hc
  clear Hc hl2
  have Hn := H.fine.hl
  refine zU rfl rfl (ya (c := [.int _ _, .int _ _, .int _ _]) Hn sl31 rfl rfl (by have hmo := H.most; (try simp only at hmo); show _ + _ < _; (try simp only); omega) (fun b60 s60 Hc => ?_))
  have H := H.call (HL.wider H.fine (Nat.le_refl _) (fun _ h => h) Hc)
  clear Hc Hn
  simp only [List.cons_append, List.nil_append] at H
  have hgt := H.own0
  have H := H.drop0
  refine dr_appendOwn (D := [_]) (fr := []) rfl rfl rfl H (by simp) (by simp) (Own.block bs cp (z7 st) st.length (by simp [z7]) hcp) sl31 un31 rfl rfl rfl (yH hgt rfl) (by decide) rfl rfl (by omega) (by omega) (fun b61 s61 H => ?_)
  refine ze rfl rfl (yb rfl ⟨rfl, (z2 (zP (zi (zv (za rfl (zd rfl (za rfl (zT rfl rfl (by unfold zQ; omega) (za rfl (zm rfl (zb (zN (⟨may.length - (i + 1), by omega, _, i + 1, b61, _, st ++ [(may.getD i default).w, (may.getD i default).p, zB (may.getD i default).w (may.getD i default).p], yd ⟨rfl, rfl, by rw [List.length_append]; rfl, rfl, trivial⟩, ?_, ?_, ?_, by rw [List.length_append, hsl]; simp only [List.length_cons, List.length_nil]; omega, by omega, rfl⟩)))))))))))))⟩)
  ·rw [← ints_app]
   exact H.up (by omega)
  ·rw [List.length_append]; simp only [List.length_cons, List.length_nil]; omega
  ·intro x hx
   rcases List.mem_append.mp hx with hx | hx
   ·exact hst x hx
   ·have hmi := yu (y := default) (show i < may.length by omega)
    have h63 := (hmay63 _ hmi).2
    have hsf := yU (hmk _ hmi).1 (hmk _ hmi).2
    simp only [List.mem_cons, List.not_mem_nil, or_false] at hx
    rcases hx with rfl | rfl | rfl <;> omega
 refine zb (zx rfl (yn (zX (yh (ye (zi ?_))))))
 have hTs : st.length * (T + 10) ≤ 49 * (T + 10) := Nat.mul_le_mul_right _ (by omega)
 refine zc (za rfl (zf of27_0 rfl (za rfl (zj y1 rfl H.own2 rfl (za rfl (zp rfl (za rfl (zp rfl (za rfl (zo rfl fc37 rfl ?_))))))))))
 obtain ⟨_, s9, hr, Df, sx, sn, sum, e, rfl, Hc, hres⟩ := find_ok (w := w) (may := may) (st := st) (T := T) hI h80 h79 H.fine (hm21.sl H (by intro p hp; (try simp only [List.mem_cons, List.mem_append, List.not_mem_nil, or_false] at hp ⊢); first | exact hp | simp only [hp, true_or, or_true])) ((intsG (b := bs) (cap := cp) (e := 23) (l := st) (by omega)).sl H (by intro p hp; (try simp only [List.mem_cons, List.mem_append, List.not_mem_nil, or_false] at hp ⊢); first | exact hp | simp only [hp, true_or, or_true])) hmk hst (by omega) (by omega) (by omega) (by omega) hT (by have hmo := H.most; omega)
 refine ⟨_, _, hr, ?_⟩
 clear hr
 have H := H.callE Hc
 clear Hc
 try simp only [List.cons_append, List.nil_append, List.append_assoc] at H
 obtain ⟨sxa, sxn, sxc⟩ := sx
 obtain ⟨sna, snn, snc⟩ := sn
 simp only [Slc.v]
 refine za rfl (yA rfl (za rfl (zH rfl rfl (za rfl (zH rfl rfl (za rfl (zH rfl rfl (za rfl (zH rfl rfl (za rfl (zC H zf89 (by omega) (fun b10 s5 H => ?_))))))))))))
 refine za rfl (yb rfl (za rfl (zm rfl (za rfl (zD (vs := [.slice _ _ _]) H sz89 rfl rfl rfl rfl rfl (by omega) (fun s6 H => ?_))))))
 refine za rfl (zm rfl (zb ?_))
 have H := H.up (n' := 31000000000000) (by omega)
 refine zc (za rfl (zf of27_0 rfl (za rfl (zj y1 rfl H.own3 rfl (za rfl (zf of27_1 rfl (za rfl (zj sh24 rfl H.own3 rfl (za rfl (zf of27_2 rfl (za rfl (zj y1 rfl H.own3 rfl (za rfl (zp rfl (za rfl (zo rfl fc12 rfl ?_))))))))))))))))
 obtain ⟨_, s9, hr, o, D3, sx3, p3, q3, hli, rfl, Hc, hx3, hp3, hq3⟩ := hL _ w bad _ _ js may H.fine (hjG.sl H (by intro p hp; (try simp only [List.mem_cons, List.mem_append, List.not_mem_nil, or_false] at hp ⊢); first | exact hp | simp only [hp, true_or, or_true])) (hm21.sl H (by intro p hp; (try simp only [List.mem_cons, List.mem_append, List.not_mem_nil, or_false] at hp ⊢); first | exact hp | simp only [hp, true_or, or_true])) hinp (by (try simp only [List.length_append, List.length_cons, List.length_nil]); omega) (by have hmo := H.most; (try simp only at hmo); show _ + _ ≤ _; (try simp only); omega)
 refine ⟨_, _, hr, ?_⟩
 clear hr
 have H := H.callE Hc
 clear Hc
 try simp only [List.cons_append, List.nil_append, List.append_assoc] at H
 obtain ⟨sx3a, sx3n, sx3c⟩ := sx3
 have hsn := hx3.slc
 rw [List.length_map] at hsn
 simp only at hsn
 subst hsn
 obtain ⟨p3a, p3n, p3c⟩ := p3
 have hsn := hp3.slc
 rw [List.length_map] at hsn
 simp only at hsn
 subst hsn
 obtain ⟨q3a, q3n, q3c⟩ := q3
 have hsn := hq3.slc
 rw [List.length_map] at hsn
 simp only at hsn
 subst hsn
 simp only [Slc.v]
 have herr : x0 w js bad may = 0 := err_okA (by omega) hbad (by omega) (by omega) hmk hjb
 have htw := hli.twoZ herr
 refine za rfl (yA rfl (za rfl (zH rfl rfl (za rfl (zH rfl rfl (za rfl (zH rfl rfl (za rfl (zH rfl rfl (za rfl (zC H zf36 (by omega) (fun b14 s7 H => ?_))))))))))))
 refine za rfl (yb rfl (za rfl (zm rfl (za rfl (zD (vs := [.slice _ _ _, .slice _ _ _]) H sz36 rfl rfl rfl rfl rfl (by omega) (fun s8 H => ?_))))))
 refine za rfl (zm rfl (zb (zq ?_)))
 rcases hres with rfl | ⟨rfl, n3, hsn, htree, hn3⟩
 ·refine zc (za rfl (zd rfl (za rfl (xf rfl rfl (fun h => False.elim (by omega)) (fun h => ?_)))))
  refine za rfl (zl rfl (zg rfl (zg rfl (zg rfl (zg rfl (zg rfl (zg rfl (zg rfl (zg rfl (zg rfl (zg rfl (zg rfl ?_))))))))))))
  refine zg rfl (zg rfl (zg rfl (za rfl (zZ rfl (zb (zx rfl (zA (zi (zc (za rfl (zd rfl (za rfl (xf rfl rfl (fun h => False.elim (by omega)) (fun h => ?_))))))))))))))
  refine za rfl (zl rfl (za rfl (zd rfl (za rfl (xf rfl rfl (fun h => ?_) (fun h => False.elim (by omega)))))))
  refine za rfl (zW rfl rfl (za rfl (zl rfl (za rfl (zd rfl (za rfl (xf rfl rfl (fun h => ?_) (fun h => ?_))))))))
  ·refine za rfl (zl rfl (zg rfl (zg rfl (za rfl (yi rfl (za rfl (zK rfl rfl (za rfl (zl rfl (za rfl (zo rfl fc17 rfl ?_)))))))))))
   obtain ⟨_, s9, hr, rfl, Hc⟩ := hV _ H.fine (by have := H.most; omega)
   refine ⟨_, _, hr, ?_⟩
   clear hr
   have H := H.call0 Hc
   clear Hc
   refine za rfl (zK rfl rfl (za rfl (zw rfl (zb (zF (zt (z6 ?_)))))))
   exact ⟨rfl, (H.sub (List.nil_sublist _)).up (by omega)⟩
  refine za rfl (zl rfl (za rfl (zd rfl (za rfl (xf rfl rfl (fun h => ?_) (fun h => False.elim (by rcases htw with ⟨p, _⟩ | ⟨p, _⟩ <;> omega)))))))
  refine za rfl (zW rfl rfl (za rfl (zK rfl rfl (za rfl (zl rfl (za rfl (zo rfl fc17 rfl ?_)))))))
  obtain ⟨_, s9, hr, rfl, Hc⟩ := hV _ H.fine (by have := H.most; omega)
  refine ⟨_, _, hr, ?_⟩
  clear hr
  have H := H.call0 Hc
  clear Hc
  refine za rfl (zK rfl rfl (za rfl (zw rfl (zb (zF (zt (z6 ?_)))))))
  exact ⟨rfl, (H.sub (List.nil_sublist _)).up (by omega)⟩
 refine zc ?_
 have hbn := tree_bb (js := js) (bad := bad) hmk hjd htree (by omega) (by omega)
 have hpw6 := pc_six w.toNat
 obtain ⟨hoe, hob, hon, hox⟩ : o.e = 0 ∧ (bb js bad may w).1 < 65536 ∧ o.n = (bb js bad may w).1 ∧ o.x = tk js bad may (w.toNat + 1) w := by
  rcases htw with ⟨_, h6⟩ | h
  ·omega
  ·exact h
 have hxl := tk_len (js := js) (bad := bad) hmk (w.toNat + 1) w (by omega) (by omega) hob
 rw [← hox] at hxl
 simp only at hsn
 refine za rfl (zd rfl (za rfl (xf rfl rfl (fun h => ?_) (fun h => False.elim (by omega)))))
 refine za rfl (zl rfl (za rfl (zd rfl (za rfl (op_neq rfl rfl (fun h => False.elim (by omega)) (fun h => ?_))))))
 refine za rfl (zl rfl (za rfl (zd rfl (za rfl (zp rfl (za rfl (yf un25 rfl rfl rfl (za rfl (qc rfl rfl (fun h => False.elim (by omega)) (fun h => ?_))))))))))
 refine za rfl (zW rfl rfl (za rfl (zl rfl (za rfl (zp rfl (za rfl (yf un25 rfl rfl rfl (za rfl (zd rfl (za rfl (op_neq rfl rfl (fun h => False.elim (by omega)) (fun h => ?_))))))))))))
 refine za rfl (zW rfl rfl (za rfl (zK rfl rfl (zb (zx rfl (zA (zi (zc (za rfl (zd rfl (za rfl (xf rfl rfl (fun h => ?_) (fun h => False.elim (by omega))))))))))))))
 refine za rfl (zl rfl (zg rfl (zg rfl (za rfl (yi rfl (za rfl (zl rfl (za rfl (zd rfl (za rfl (xf rfl rfl (fun h => ?_) (fun h => False.elim (by omega)))))))))))))
 refine za rfl (zl rfl (zg rfl (zg rfl (za rfl (yi rfl (za rfl (zK rfl rfl (za rfl (zl rfl (za rfl (zo rfl fc17 rfl ?_)))))))))))
 obtain ⟨_, s9, hr, rfl, Hc⟩ := hV _ H.fine (by have := H.most; omega)
 refine ⟨_, _, hr, ?_⟩
 clear hr
 have H := H.call0 Hc
 clear Hc
 refine za rfl (zK rfl rfl (za rfl (zw rfl (zb (zF (zt (z6 ?_)))))))
 exact ⟨rfl, (H.sub (List.nil_sublist _)).up (by omega)⟩
end Go.Proofs.YtdejleegamcioaaGreat
