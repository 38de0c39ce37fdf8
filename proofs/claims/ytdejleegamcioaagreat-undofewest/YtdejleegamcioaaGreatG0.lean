/- UndoFewest: for every input it returns true, if Least and the examples are as they should be. -/
import Derived.Test.YtdejleegamcioaaGreatF35
namespace Go.Proofs.YtdejleegamcioaaGreat
open Go Go.M
theorem fb5 : yw Tryz.f5 (Tryz.f5.body.getD .skip) 4 = true := by kernel_rfl
theorem fc11 : yp Tryz.prog 11 = true := by kernel_rfl
theorem fc12 : yp Tryz.prog 12 = true := by kernel_rfl
theorem fc16 : yp Tryz.prog 16 = true := by kernel_rfl
theorem fc17 : yp Tryz.prog 17 = true := by kernel_rfl
theorem fc18 : yp Tryz.prog 18 = true := by kernel_rfl
theorem fc20 : yp Tryz.prog 20 = true := by kernel_rfl
theorem fc21 : yp Tryz.prog 21 = true := by kernel_rfl
theorem fc9 : yp Tryz.prog 9 = true := by kernel_rfl
section
variable {js : List (Int × Int)} {bad : Int} {may : List Sp} {w : Int}
theorem LIs.two (he : xK w js bad may = 0) {o : LOut} (h : LIs js bad may w o) : (o.e = 6 ∧ (bb js bad may w).1 = 65536) ∨ (o.e = 0 ∧ (bb js bad may w).1 < 65536 ∧ o.n = (bb js bad may w).1 ∧ Inc o.ks ∧ (∀ k, k ∈ o.ks ↔ Rch js bad may w k) ∧ o.ns = o.ks.map (fun q => (bb js bad may q).1) ∧ o.x = tk js bad may (w.toNat + 1) w) := by
 rcases h with ⟨h, _⟩ | ⟨_, h1, h⟩ | ⟨h1, h2, h3, h4, h5, h6, h7, h8⟩
 ·exact absurd he h
 ·rw [h]; exact .inl ⟨rfl, h1⟩
 ·exact .inr ⟨h8, h2, h7, h3, h4, h5, h6⟩
theorem ChkIs.least {δ : Slc → List Int} (hm : y0 may) (h0 : 0 < w) (h1 : w < 65536) (he : xK w js bad may = 0) {o : LOut} (hb : (bb js bad may w).1 < 65536) (h3 : Inc o.ks) (h4 : ∀ k, k ∈ o.ks ↔ Rch js bad may w k) (h5 : o.ns = o.ks.map (fun q => (bb js bad may q).1)) (h6 : o.x = tk js bad may (w.toNat + 1) w) {n e : Int} (h : ChkIs δ js bad may w o.x o.ks o.ns n e) : e = 0 ∧ n = (bb js bad may w).1 ∧ (o.x.length : Int) = (bb js bad may w).1 := by
 have hl := tk_len (js := js) (bad := bad) hm (w.toNat + 1) w h0 (by omega) hb
 rw [← h6] at hl
 have hok : ChkOK δ js bad may w o.x o.ks o.ns := by
  refine ⟨?_, by rw [h5]; exact lev_least hm h0 h1 h3 h4, (h4 w).mpr .self, ?_⟩
  ·have := clean_tk (δ := δ) (js := js) (bad := bad) hm (w.toNat + 1) w [] h0 (by omega) hb
   rw [List.append_nil] at this
   rw [h6]
   exact this
  ·rw [h5, atP_map ((h4 w).mpr .self)]
   omega
 rcases h with ⟨a, _⟩ | ⟨_, _, c, d⟩ | ⟨_, b, _⟩
 ·exact absurd he a
 ·exact ⟨d, by omega, hl⟩
 ·exact absurd hok b
theorem ChkIs.short {δ : Slc → List Int} (hm : y0 may) (h0 : 0 < w) (he : xK w js bad may = 0) {l : List Sp} {ks ns : List Int} {n : Int} (h : ChkIs δ js bad may w l ks ns n 0) : (bb js bad may w).1 ≤ l.length := by
 rcases h with ⟨a, _⟩ | ⟨_, b, _⟩ | ⟨_, _, _, d⟩
 ·exact absurd he a
 ·have := clean_low hm (w.toNat + 1) w l [] h0 b.1
  simpa using this
 ·cases d
end
theorem more_flat {may : List Sp} {x : Sp} : xX may ++ x.cells = xX (may ++ [x]) := (flat_snoc (f := Sp.cells)).symm
set_option maxHeartbeats 4000000 in
set_option maxRecDepth 10000 in
theorem undoFewest_ok {I : yb} (hI : Plain I) (hL : LeastG I) (hV : LivesC I) {s : St} (hf : Fine s) {v : Value} {l : List Int} {how at_ by_ : Int} (hl : SlI s v l) (hin : ∀ x ∈ l, zS x) (h1 : zS how) (h2 : zS at_) (h3 : zS by_) (hroom : s.next + 100000000000000 ≤ zo) :
  ∃ v' s', yI Tryz.prog I 5 #[v, .int .i64 how, .int .i64 at_, .int .i64 by_] s v' s' ∧ (v' = .bool true ∧ HL [] s s' [] 100000000000000) := by
 have H := hf.hl
 refine yc 4 (hI 5 (by decide) (by decide)) Tryz.func5 rfl fb5 rfl ?_
 refine ze (za rfl (zh (zb (ze (za rfl (xz (za rfl (zy rfl fc9 rfl ?_))))))))
 obtain ⟨_, s9, hr, D, DD, sj, sm, js, may, n, w, bad, rfl, Hc, hjG, hmG, hn, hjl, hjr, hbad, hml, hmay⟩ := made_ok hI H.fine (hl.kept H) hin (by have := H.most; omega)
 refine ⟨_, _, hr, ?_⟩
 clear hr
 have H := H.callE Hc
 clear Hc
 try simp only [List.cons_append, List.nil_append, List.append_assoc] at H
 have hmayI : ∀ x ∈ may, zS x.w ∧ zS x.p := fun x hx => by have h := (hmay x hx).1; simp only [validB, Bool.and_eq_true, decide_eq_true_eq] at h; unfold zS; omega
 have hmk : y0 may := fun x hx => valid_split (hmay x hx).1
 have hinp : ∀ x ∈ may, x.p < 9223372036854775808 := fun x hx => (hmk x hx).2
 have hwr := whole_range hn.1 hn.2.1
 rw [← hn.2.2] at hwr
 have hjb := joins_ok hn.2.1 hjr
 have hjj : ∀ j ∈ js, joinB j := fun j hj => (joinsB_all hjb j hj).1
 obtain ⟨sja, sjn, sjc⟩ := sj
 have hsn := hjG.slc
 rw [List.length_map] at hsn
 simp only at hsn
 subst hsn
 obtain ⟨sma, smn, smc⟩ := sm
 have hsn := hmG.slc
 rw [List.length_map] at hsn
 simp only at hsn
 subst hsn
 simp only [Slc.v]
 refine za rfl (z6 H zf27 (by omega) (fun b9 s1 H => ?_))
 refine za rfl (zX (vs := [.int _ _, .slice _ _ _, .int _ _, .slice _ _ _]) H sz27 rfl rfl rfl rfl rfl (by omega) (fun s2 H => ?_))
 refine zb (ze (za rfl (zg of27_0 rfl (za rfl (zl yx rfl H.own0 rfl (za rfl (zg qH rfl (za rfl (zl sh24 rfl H.own0 rfl (za rfl (zg of27_2 rfl (za rfl (zl yx rfl H.own0 rfl (za rfl (zg of27_3 rfl (za rfl (zl sh25 rfl H.own0 rfl (za rfl (zy rfl fc12 rfl ?_)))))))))))))))))))
 obtain ⟨_, s9, hr, o, D3, sx3, p3, q3, hli, rfl, Hc, hx3, hp3, hq3⟩ := hL _ w bad _ _ js may H.fine (hjG.sl H (by intro p hp; (try simp only [List.mem_cons, List.mem_append, List.not_mem_nil, or_false] at hp ⊢); first | exact hp | simp only [hp, true_or, or_true])) (hmG.sl H (by intro p hp; (try simp only [List.mem_cons, List.mem_append, List.not_mem_nil, or_false] at hp ⊢); first | exact hp | simp only [hp, true_or, or_true])) hinp (by (try simp only [List.length_append, List.length_cons, List.length_nil]); omega) (by have hmo := H.most; (try simp only at hmo); show _ + _ ≤ _; (try simp only); omega)
 refine ⟨_, _, hr, ?_⟩
 clear hr
 have H := H.callE Hc
 clear Hc
 try simp only [List.cons_append, List.nil_append, List.append_assoc] at H
 obtain ⟨sx3a, sx3n, sx3c⟩ := sx3
 have hsn := hx3.slc
 rw [List.length_map] at hsn
 simp only at hsn
 subst hsn
 obtain ⟨p3a, p3n, p3c⟩ := p3
 have hsn := hp3.slc
 rw [List.length_map] at hsn
 simp only at hsn
 subst hsn
 obtain ⟨q3a, q3n, q3c⟩ := q3
 have hsn := hq3.slc
 rw [List.length_map] at hsn
 simp only at hsn
 subst hsn
 simp only [Slc.v]
 have hsm := hli.small hmk (by omega) (by omega)
 have herr : xK w js bad may = 0 := err_okA (by omega) hbad (by omega) (by omega) hmk hjb
 have htw := hli.two herr
 refine za rfl (yq rfl (za rfl (zE rfl rfl (za rfl (zE rfl rfl (za rfl (zE rfl rfl (za rfl (zE rfl rfl (za rfl (z6 H zf36 (by omega) (fun b12 s3 H => ?_))))))))))))
 refine za rfl (zT rfl (za rfl (zk rfl (za rfl (zX (vs := [.slice _ _ _, .slice _ _ _]) H sz36 rfl rfl rfl rfl rfl (by omega) (fun s4 H => ?_))))))
 refine za rfl (zk rfl (zb (yy [⟨1, 0, .light, [5]⟩, ⟨2, 2, .light, [5]⟩, ⟨4, 0, .light, [2]⟩, ⟨5, 16, .light, [2]⟩, ⟨6, 48, .light, [2]⟩, ⟨0, 0, .fresh, [2, 5]⟩, ⟨3, 7, .fresh, [5]⟩, ⟨7, 112, .fresh, [2]⟩, ⟨8, 255, .whole, []⟩, ⟨9, 511, .light, []⟩] (by kernel_rfl) (by kernel_rfl) (zd rfl rfl (zg of27_3 rfl ⟨rfl, (zG rfl rfl sh25 rfl H.own1 (by exact H.lim1 (by omega)) rfl (zd rfl rfl (zg of27_0 rfl ⟨rfl, (zG rfl rfl yx rfl H.own1 (by exact H.lim1 (by omega)) rfl (zd rfl rfl (yZ (c := [.int _ _, .int _ _, .bool _, .slice _ _ _, .bool _, .slice _ _ _, .bool _, .slice _ _ _, .bool _, .slice _ _ _]) bf62 rfl ⟨rfl, ?_⟩)))⟩)))⟩)))))
 have Hn := (Fine.fresh H.fine).hl
 refine xb rfl rfl (yd (c := []) Hn sl25 rfl rfl (by have hmo := H.most; (try simp only at hmo); show _ + _ < _; (try simp only); omega) (fun b49 s49 Hc => ?_))
 have H := H.call (HL.wider H.fine H.fine.wfb (fun _ h => h) Hc)
 clear Hc Hn
 simp only [List.cons_append, List.nil_append] at H
 refine dr_appendF rfl rfl H sl25 qF rfl rfl rfl (hmG.sl H (by intro p hp; (try simp only [List.mem_cons, List.mem_append, List.not_mem_nil, or_false] at hp ⊢); first | exact hp | simp only [hp, true_or, or_true])).elemsS (sps_plain may) (sps_len may) (by omega) (by omega) (fun b52 cap52 s52 H hcap52 => ?_)
 have Hn := (Fine.fresh H.fine).hl
 refine xb rfl rfl (yd (c := [.int _ _, .int _ _, .bool _, .slice _ _ _, .bool _, .slice _ _ _, .bool _, .slice _ _ _, .bool _, .slice _ _ _]) Hn sl25 rfl rfl (by have hmo := H.most; (try simp only at hmo); show _ + _ < _; (try simp only); omega) (fun b56 s56 Hc => ?_))
 have H := H.call (HL.wider H.fine H.fine.wfb (fun _ h => h) Hc)
 clear Hc Hn
 simp only [List.cons_append, List.nil_append] at H
 have H00 := H
 refine yn rfl rfl (op_append1 H sl25 qF rfl rfl rfl (xa H.own0 rfl) (by rw [sps_len]) (by omega) rfl rfl (by omega) (by omega) (fun b57 s57 H => ?_))
 have H := HL.back H00 H
 clear H00
 rw [show (xX may ++ [.int .i64 w, .int .i64 1, .bool false, .slice none 0 0, .bool false, .slice none 0 0, .bool false, .slice none 0 0, .bool false, .slice none 0 0] : List Value) = xX (may ++ [(⟨w, 1, false, ⟨none, 0, 0⟩, false, ⟨none, 0, 0⟩, false, ⟨none, 0, 0⟩, false, ⟨none, 0, 0⟩⟩ : Sp)]) from more_flat (x := (⟨w, 1, false, ⟨none, 0, 0⟩, false, ⟨none, 0, 0⟩, false, ⟨none, 0, 0⟩, false, ⟨none, 0, 0⟩⟩ : Sp))] at H
 have hmoG := spsG (b := b57) (cap := 2 * (may.length + 1) + 1) (l := (may ++ [(⟨w, 1, false, ⟨none, 0, 0⟩, false, ⟨none, 0, 0⟩, false, ⟨none, 0, 0⟩, false, ⟨none, 0, 0⟩⟩ : Sp)])) (by simp only [List.length_append, List.length_cons, List.length_nil]; omega)
 rw [List.length_append] at hmoG
 have hmo_ok : y0 (may ++ [(⟨w, 1, false, ⟨none, 0, 0⟩, false, ⟨none, 0, 0⟩, false, ⟨none, 0, 0⟩, false, ⟨none, 0, 0⟩⟩ : Sp)]) := by
  intro x hx
  rcases List.mem_append.mp hx with h | h
  ·exact hmk x h
  ·rw [List.mem_singleton] at h
   subst h
   exact ⟨by show xl w 1 = true; rw [hn.2.2]; exact whole_one hn.1 hn.2.1, by show (1 : Int) < 9223372036854775808; decide⟩
 have hmm := bb_mono (js := js) (bad := bad) (bad' := bad) (may := (may ++ [(⟨w, 1, false, ⟨none, 0, 0⟩, false, ⟨none, 0, 0⟩, false, ⟨none, 0, 0⟩, false, ⟨none, 0, 0⟩⟩ : Sp)])) (may' := may) hmo_ok hmk (fun _ h => h) (fun m hm => List.mem_append_left _ hm) (w.toNat + 1) w (by omega) (by omega)
 refine zd rfl rfl (zT rfl ⟨rfl, (zV (ze (za rfl (zg of27_0 rfl (za rfl (zl yx rfl H.own3 rfl (za rfl (zg qH rfl (za rfl (zl sh24 rfl H.own3 rfl (za rfl (zg of27_2 rfl (za rfl (zl yx rfl H.own3 rfl (za rfl (zm rfl (za rfl (zy rfl fc12 rfl ?_))))))))))))))))))⟩)
 obtain ⟨_, s9, hr, om, D4, sx4, p4, q4, hlm, rfl, Hc, hx4, hp4, hq4⟩ := hL _ w bad _ _ js (may ++ [(⟨w, 1, false, ⟨none, 0, 0⟩, false, ⟨none, 0, 0⟩, false, ⟨none, 0, 0⟩, false, ⟨none, 0, 0⟩⟩ : Sp)]) H.fine (hjG.sl H (by intro p hp; (try simp only [List.mem_cons, List.mem_append, List.not_mem_nil, or_false] at hp ⊢); first | exact hp | simp only [hp, true_or, or_true])) (hmoG.sl H (by intro p hp; (try simp only [List.mem_cons, List.mem_append, List.not_mem_nil, or_false] at hp ⊢); first | exact hp | simp only [hp, true_or, or_true])) (fun x hx => (hmo_ok x hx).2) (by (try simp only [List.length_append, List.length_cons, List.length_nil]); omega) (by have hmo := H.most; (try simp only at hmo); show _ + _ ≤ _; (try simp only); omega)
 refine ⟨_, _, hr, ?_⟩
 clear hr
 have H := H.callE Hc
 clear Hc
 try simp only [List.cons_append, List.nil_append, List.append_assoc] at H
 obtain ⟨sx4a, sx4n, sx4c⟩ := sx4
 have hsn := hx4.slc
 rw [List.length_map] at hsn
 simp only at hsn
 subst hsn
 obtain ⟨p4a, p4n, p4c⟩ := p4
 have hsn := hp4.slc
 rw [List.length_map] at hsn
 simp only at hsn
 subst hsn
 obtain ⟨q4a, q4n, q4c⟩ := q4
 have hsn := hq4.slc
 rw [List.length_map] at hsn
 simp only at hsn
 subst hsn
 simp only [Slc.v]
 have htm := hlm.two (err_okA (by omega) hbad (by omega) (by simp only [List.length_append, List.length_cons, List.length_nil]; omega) hmo_ok hjb)
 refine za rfl (yq rfl (za rfl (zE rfl rfl (za rfl (zE rfl rfl (za rfl (zE rfl rfl (za rfl (zE rfl rfl (za rfl (z6 H zf36 (by omega) (fun b17 s5 H => ?_))))))))))))
 refine za rfl (zT rfl (za rfl (zk rfl (za rfl (zX (vs := [.slice _ _ _, .slice _ _ _]) H sz36 rfl rfl rfl rfl rfl (by omega) (fun s6 H => ?_))))))
 refine za rfl (zk rfl (zb (zx ?_)))
 rcases htw with ⟨hoe, hob⟩ | ⟨hoe, hob, hon, hinc, hks, hns, hxx⟩
 ·refine ze (za rfl (zf rfl (za rfl (yJ rfl rfl (fun h => False.elim (by omega)) (fun h => ?_)))))
  refine za rfl (zi rfl (zc rfl (zc rfl (zc rfl (zc rfl (zc rfl (zc rfl (zc rfl (za rfl (zY rfl (zb (zv rfl (zD ?_)))))))))))))
  refine zj (zx (ze (za rfl (zf rfl (za rfl (yM rfl rfl (fun h => ?_) (fun h => False.elim (by omega))))))))
  refine zb (zq rfl (yy [⟨0, 0, .light, [3, 5, 8, 14]⟩, ⟨1, 1, .light, [3, 5, 8, 14]⟩, ⟨2, 0, .light, [1, 5, 8, 14]⟩, ⟨3, 4, .light, [1, 5, 8, 14]⟩, ⟨4, 0, .light, [1, 3, 8, 14]⟩, ⟨5, 16, .light, [1, 3, 8, 14]⟩, ⟨6, 0, .light, [1, 3, 5, 8, 14]⟩, ⟨7, 0, .light, [1, 3, 5, 14]⟩, ⟨8, 128, .light, [1, 3, 5, 14]⟩, ⟨9, 384, .light, [1, 3, 5, 14]⟩, ⟨13, 0, .light, [1, 3, 5, 8]⟩, ⟨14, 8192, .light, [1, 3, 5, 8]⟩, ⟨10, 960, .fresh, [1, 3, 5, 14]⟩, ⟨11, 1984, .light, [1, 3, 5, 14]⟩, ⟨12, 4080, .light, [1, 3, 14]⟩, ⟨15, 32767, .fresh, []⟩, ⟨16, 65535, .light, []⟩, ⟨17, 131071, .light, []⟩, ⟨18, 131071, .light, []⟩, ⟨19, 131071, .light, []⟩, ⟨20, 131071, .light, []⟩, ⟨21, 0, .fresh, [1, 3, 5, 8, 14]⟩, ⟨22, 2359295, .light, []⟩, ⟨23, 6815743, .light, []⟩, ⟨24, 15728639, .whole, []⟩, ⟨25, 33554431, .light, []⟩] (by kernel_rfl) (by kernel_rfl) (zd rfl rfl (zg of27_0 rfl ⟨rfl, (zG rfl rfl yx rfl H.own4 (by exact H.lim4 (by omega)) rfl (zd rfl rfl (zg qH rfl ⟨rfl, (zG rfl rfl sh24 rfl H.own4 (by exact H.lim4 (by omega)) rfl (zd rfl rfl (zg of27_2 rfl ⟨rfl, (zG rfl rfl yx rfl H.own4 (by exact H.lim4 (by omega)) rfl (zd rfl rfl (zf rfl ⟨rfl, (zd rfl rfl (zg qH rfl ⟨rfl, (zG rfl rfl sh24 rfl H.own4 (by exact H.lim4 (by omega)) rfl ?_)⟩))⟩)))⟩)))⟩)))⟩))))
  refine zd rfl rfl (z7 un24 rfl rfl rfl ⟨rfl, (zd rfl rfl (zg of27_3 rfl ⟨rfl, (zG rfl rfl sh25 rfl H.own4 (by exact H.lim4 (by omega)) rfl (qm rfl rfl (zy rfl fc10 rfl ?_)))⟩))⟩)
  obtain ⟨_, _, hr, rfl, rfl⟩ := qS (a := by_) (n := (js.length : Int)) hI h3 (by omega)
  refine ⟨_, _, hr, rfl, ?_⟩
  clear hr
  have hkr := xH (a := by_) (n := (js.length : Int)) (by omega)
  obtain ⟨m, hme⟩ : ∃ m : Nat, xq by_ (js.length : Int) = (m : Int) := ⟨(xq by_ (js.length : Int)).toNat, by omega⟩
  have hmj : m < js.length := by omega
  rw [hme]
  have hor := or_bit (k := m) hbad.1 hbad.2 (by omega) hmj
  refine zd rfl rfl (op_shl rfl rfl (by omega) (by omega) (by rw [Int.one_mul, Int.toNat_natCast]; have := two_pow_le (n := m) (by omega); unfold zS; omega) ⟨rfl, ?_⟩)
  rw [show (1 : Int) * 2 ^ ((m : Int)).toNat = 2 ^ m by rw [Int.one_mul, Int.toNat_natCast]]
  refine zd rfl rfl (op_or rfl rfl ⟨rfl, (xb rfl rfl (zy rfl fc12 rfl ?_))⟩)
  obtain ⟨_, s9, hr, ob, D9, sx9, p9, q9, hlb, rfl, Hc, hx9, hp9, hq9⟩ := hL _ w (orI bad (2 ^ m)) _ _ js may (Fine.fresh H.fine) ((hjG.sl H (by intro p hp; (try simp only [List.mem_cons, List.mem_append, List.not_mem_nil, or_false] at hp ⊢); first | exact hp | simp only [hp, true_or, or_true])).heap rfl rfl) ((hmG.sl H (by intro p hp; (try simp only [List.mem_cons, List.mem_append, List.not_mem_nil, or_false] at hp ⊢); first | exact hp | simp only [hp, true_or, or_true])).heap rfl rfl) hinp (by (try simp only [List.length_append, List.length_cons, List.length_nil]); omega) (by have hmo := H.most; (try simp only at hmo); show _ + _ ≤ _; (try simp only); omega)
  refine ⟨_, _, hr, ?_⟩
  clear hr
  have H := H.callE (HL.wider H.fine H.fine.wfb (fun _ h => h) Hc)
  clear Hc
  try simp only [List.cons_append, List.nil_append, List.append_assoc] at H
  obtain ⟨sx9a, sx9n, sx9c⟩ := sx9
  have hsn := hx9.slc
  rw [List.length_map] at hsn
  simp only at hsn
  subst hsn
  obtain ⟨p9a, p9n, p9c⟩ := p9
  have hsn := hp9.slc
  rw [List.length_map] at hsn
  simp only at hsn
  subst hsn
  obtain ⟨q9a, q9n, q9c⟩ := q9
  have hsn := hq9.slc
  rw [List.length_map] at hsn
  simp only at hsn
  subst hsn
  simp only [Slc.v]
  have htb := hlb.two (err_okA (by omega) hor.1 (by omega) (by omega) hmk hjb)
  have hmb := bb_mono (js := js) (bad := bad) (bad' := orI bad (2 ^ m)) hmk hmk (fun S h => needs_more hor.2 0 js h) (fun m hm => hm) (w.toNat + 1) w (by omega) (by omega)
  refine zd rfl rfl (yq rfl ⟨rfl, (zd rfl rfl (zE rfl rfl ⟨rfl, (zd rfl rfl (zE rfl rfl ⟨rfl, (zd rfl rfl (zE rfl rfl ⟨rfl, (zd rfl rfl (zE rfl rfl ⟨rfl, ?_⟩))⟩))⟩))⟩))⟩)
  have Hn := (Fine.fresh H.fine).hl
  refine xb rfl rfl (z6 Hn zf36 (by have hmo := H.most; (try simp only at hmo); show _ + _ < _; (try simp only); omega) (fun b21 s21 Hc => ?_))
  have H := H.call (HL.wider H.fine H.fine.wfb (fun _ h => h) Hc)
  clear Hc Hn
  simp only [List.cons_append, List.nil_append] at H
  refine zd rfl rfl (zT rfl ⟨rfl, (zd rfl rfl (zk rfl ⟨rfl, ?_⟩))⟩)
  obtain ⟨LL9, N70, hLL9, hN70, H⟩ := open_list (m := 70000000000000) H (by omega)
  subst hLL9
  refine qR (vs := [.slice _ _ _, .slice _ _ _]) (fr := []) H rfl rfl sz36 rfl rfl rfl rfl rfl rfl (by have hd := H.dist; simp only [List.pairwise_cons, List.mem_cons, List.not_mem_nil, or_false, forall_eq_or_imp, forall_eq, false_imp_iff, implies_true] at hd ⊢; try omega) (by omega) (fun s7 H => ?_)
  refine zd rfl rfl (zk rfl ⟨rfl, (zV (ze (za rfl (zf rfl (za rfl (yJ rfl rfl (fun h => ?_) (fun h => False.elim (by exact h hoe))))))))⟩)
  refine za rfl (zi rfl (za rfl (zf rfl (za rfl (yJ rfl rfl (fun h => ?_) (fun h => False.elim (by rcases htb with ⟨p, p2⟩ | ⟨p, p2, p3, _⟩ <;> omega)))))))
  refine za rfl (zN rfl rfl (za rfl (zi rfl (za rfl (zy rfl fc17 rfl ?_)))))
  obtain ⟨_, s9, hr, rfl, Hc⟩ := hV _ H.fine (by have := H.most; omega)
  refine ⟨_, _, hr, ?_⟩
  clear hr
  have H := H.call0 Hc
  clear Hc
  refine za rfl (zN rfl rfl (za rfl (zr rfl (zb (zu (zn (zp (zQ ?_))))))))
  exact ⟨rfl, (H.sub (List.nil_sublist _)).up (by omega)⟩
 refine ze (za rfl (zf rfl (za rfl (yJ rfl rfl (fun h => ?_) (fun h => False.elim (by exact h hoe))))))
 refine za rfl (zi rfl (za rfl (zf rfl (za rfl (yM rfl rfl (fun h => False.elim (by rcases htm with ⟨p, p2⟩ | ⟨p, p2, p3, _⟩ <;> omega)) (fun h => ?_))))))
 refine za rfl (zi rfl (za rfl (zf rfl (za rfl (zf rfl (za rfl (yz rfl rfl (fun h => False.elim (by rcases htm with ⟨p, p2⟩ | ⟨p, p2, p3, _⟩ <;> omega)) (fun h => ?_))))))))
 refine za rfl (zw rfl rfl (za rfl (zN rfl rfl (zb (zv rfl (zD (zj (zx (ze (za rfl (zf rfl (za rfl (yM rfl rfl (fun h => False.elim (by exact h hoe)) (fun h => ?_))))))))))))))
 refine zb (zv rfl (zD (zj (ze (za rfl (zg of27_0 rfl (za rfl (zl yx rfl H.own4 rfl (za rfl (zg qH rfl (za rfl (zl sh24 rfl H.own4 rfl (za rfl (zg of27_2 rfl (za rfl (zl yx rfl H.own4 rfl (za rfl (zg of27_3 rfl ?_))))))))))))))))))
 refine za rfl (zl sh25 rfl H.own4 rfl (za rfl (zm rfl (za rfl (ya sh36 rfl H.own3 rfl (za rfl (zy rfl fc20 rfl ?_)))))))
 have htx := tc14 (n := o.x.length) (by omega)
 obtain ⟨_, s9, hr, n1, e1, rfl, hk1, Hc⟩ := check_ok (w := w) (bad := bad) hI H.fine (us_of (SlG.mono hjG (by intro p hp; (try simp only [List.mem_cons, List.mem_append, List.not_mem_nil, or_false] at hp ⊢); first | exact hp | simp only [hp, true_or, or_true])) (SlG.mono hmG (by intro p hp; (try simp only [List.mem_cons, List.mem_append, List.not_mem_nil, or_false] at hp ⊢); first | exact hp | simp only [hp, true_or, or_true])) (SlG.mono hx3 (by intro p hp; (try simp only [List.mem_cons, List.mem_append, List.not_mem_nil, or_false] at hp ⊢); first | exact hp | simp only [hp, true_or, or_true])) (fun x hx => (hmay x hx).2.mono (by intro p hp; (try simp only [List.mem_cons, List.mem_append, List.not_mem_nil, or_false] at hp ⊢); first | exact hp | simp only [hp, true_or, or_true])) (fun x hx => (hmay x (hsm.1 x hx)).2.mono (by intro p hp; (try simp only [List.mem_cons, List.mem_append, List.not_mem_nil, or_false] at hp ⊢); first | exact hp | simp only [hp, true_or, or_true])) H (List.Subset.refl _)) (hp3.sl H (by intro p hp; (try simp only [List.mem_cons, List.mem_append, List.not_mem_nil, or_false] at hp ⊢); first | exact hp | simp only [hp, true_or, or_true])) (hq3.sl H (by intro p hp; (try simp only [List.mem_cons, List.mem_append, List.not_mem_nil, or_false] at hp ⊢); first | exact hp | simp only [hp, true_or, or_true])) hinp (by omega) (by omega) (by omega) (by have hmo := H.most; (try simp only at hmo); show _ + _ ≤ _; (try simp only); omega)
 refine ⟨_, _, hr, ?_⟩
 clear hr
 have H := H.call0 Hc
 clear Hc
 obtain ⟨he1, hn1, hxl⟩ := hk1.least hmk (by omega) (by omega) herr hob hinc hks hns hxx
 have hb5 := bb_five (js := js) (bad := bad) hmk (by omega) (by omega) hob
 refine za rfl (yq rfl (za rfl (zE rfl rfl (za rfl (zE rfl rfl (za rfl (zk rfl (za rfl (zk rfl (zb (zx (ze (za rfl (zf rfl (za rfl (yM rfl rfl (fun h => False.elim (by exact h he1)) (fun h => ?_)))))))))))))))))
 refine za rfl (zi rfl (za rfl (zf rfl (za rfl (zf rfl (za rfl (yM rfl rfl (fun h => False.elim (by omega)) (fun h => ?_))))))))
 refine za rfl (zw rfl rfl (za rfl (zi rfl (za rfl (zf rfl (za rfl (zm rfl (za rfl (z7 qF rfl rfl rfl (za rfl (yM rfl rfl (fun h => False.elim (by omega)) (fun h => ?_))))))))))))
 refine za rfl (zw rfl rfl (za rfl (zi rfl (za rfl (zf rfl (za rfl (yz rfl rfl (fun h => False.elim (by omega)) (fun h => ?_))))))))
 refine za rfl (zw rfl rfl (zb (zv rfl (zD (zj (ze (za rfl (ya sh36 rfl H.own3 rfl (za rfl (zy rfl fc16 rfl ?_))))))))))
 obtain ⟨_, s9, hr, rfl, Hc⟩ := plain_ok hI H.fine (by have hmo := H.most; (try simp only at hmo); show _ + _ ≤ _; (try simp only); omega)
 refine ⟨_, _, hr, ?_⟩
 clear hr
 have H := H.call0 Hc
 clear Hc
 refine za rfl (zf rfl (za rfl (zf rfl (za rfl (zf rfl (za rfl (zy rfl fc18 rfl ?_)))))))
 obtain ⟨_, s9, hr, E6, u6, v6, ks6, ns6, rfl, Hc, hu6, hv6, hul6, hvl6⟩ := moved_ok (ks := o.ks) (ns := o.ns) (how := how) (at_ := at_) (by_ := by_) hI H.fine (hp3.sl H (by intro p hp; (try simp only [List.mem_cons, List.mem_append, List.not_mem_nil, or_false] at hp ⊢); first | exact hp | simp only [hp, true_or, or_true])) (hq3.sl H (by intro p hp; (try simp only [List.mem_cons, List.mem_append, List.not_mem_nil, or_false] at hp ⊢); first | exact hp | simp only [hp, true_or, or_true])) (by omega) (by omega) h1 h2 h3 (by have hmo := H.most; (try simp only at hmo); show _ + _ ≤ _; (try simp only); omega)
 refine ⟨_, _, hr, ?_⟩
 clear hr
 have H := H.callE Hc
 clear Hc
 try simp only [List.cons_append, List.nil_append, List.append_assoc] at H
 obtain ⟨u6a, u6n, u6c⟩ := u6
 have hsn := hu6.slc
 rw [List.length_map] at hsn
 simp only at hsn
 subst hsn
 obtain ⟨v6a, v6n, v6c⟩ := v6
 have hsn := hv6.slc
 rw [List.length_map] at hsn
 simp only at hsn
 subst hsn
 simp only [Slc.v]
 refine za rfl (z6 H zf40 (by omega) (fun b25 s8 H => ?_))
 refine za rfl (zX (vs := [.slice _ _ _, .slice _ _ _]) H sz40 rfl rfl rfl rfl rfl (by omega) (fun s9 H => ?_))
 refine zb (zx (ze (za rfl (zg of27_0 rfl (za rfl (zl yx rfl H.own5 rfl (za rfl (zg qH rfl (za rfl (zl sh24 rfl H.own5 rfl (za rfl (zg of27_2 rfl (za rfl (zl yx rfl H.own5 rfl (za rfl (zg of27_3 rfl (za rfl (zl sh25 rfl H.own5 rfl (za rfl (ya sh40 rfl H.own0 rfl ?_))))))))))))))))))))
 refine za rfl (zy rfl fc23 rfl ?_)
 obtain ⟨_, s9, hr, nn, rfl, hlt, hlf, Hc⟩ := showsR_ok (w := w) (bad := bad) hI H.fine (hu6.sl H (by intro p hp; (try simp only [List.mem_cons, List.mem_append, List.not_mem_nil, or_false] at hp ⊢); first | exact hp | simp only [hp, true_or, or_true])) (hv6.sl H (by intro p hp; (try simp only [List.mem_cons, List.mem_append, List.not_mem_nil, or_false] at hp ⊢); first | exact hp | simp only [hp, true_or, or_true])) (hjG.sl H (by intro p hp; (try simp only [List.mem_cons, List.mem_append, List.not_mem_nil, or_false] at hp ⊢); first | exact hp | simp only [hp, true_or, or_true])) (hmG.sl H (by intro p hp; (try simp only [List.mem_cons, List.mem_append, List.not_mem_nil, or_false] at hp ⊢); first | exact hp | simp only [hp, true_or, or_true])) hjj (by omega) (by omega) (by omega) (by have hmo := H.most; (try simp only at hmo); show _ + _ ≤ _; (try simp only); omega)
 refine ⟨_, _, hr, ?_⟩
 clear hr
 have H := H.call0 Hc
 clear Hc
 have hrg := yR (js := js) (bad := bad) (may := may) w
 have hnn : nn ≤ (bb js bad may w).1 := by
  by_cases hLv : Lev js bad may ks6 ns6
  ·rw [hlt hLv]; exact lev_most hmk hLv (by omega)
  ·rw [hlf hLv]; omega
 refine za rfl (zf rfl (za rfl (yz rfl rfl (fun h => False.elim (by omega)) (fun h => ?_))))
 refine zb (zv rfl (zD (zj (ze (za rfl (zm rfl (za rfl (zf rfl (za rfl (zf rfl (za rfl (zy rfl fc11 rfl ?_))))))))))))
 obtain ⟨_, s9, hr, D5, DD5, l5, Hc, h5G, hl5, hl53, hdir5⟩ := bent_ok (how := 3) (at_ := at_) (by_ := by_) (l := o.x) hI H.fine (hx3.sl H (by intro p hp; (try simp only [List.mem_cons, List.mem_append, List.not_mem_nil, or_false] at hp ⊢); first | exact hp | simp only [hp, true_or, or_true])) (by omega) (fun x hx => hmayI x (hsm.1 x hx)) ⟨by decide, by decide⟩ h2 h3 (by have hmo := H.most; (try simp only at hmo); show _ + _ ≤ _; (try simp only); omega)
 refine ⟨_, _, hr, ?_⟩
 clear hr
 have H := H.callE Hc
 clear Hc
 try simp only [List.cons_append, List.nil_append, List.append_assoc] at H
 obtain ⟨l5a, l5c, rfl⟩ := h5G.shp
 refine za rfl (zT rfl (zb ?_))
 obtain ⟨LL9, N60, hLL9, hN60, H⟩ := open_list (m := 60000000000000) H (by omega)
 subst hLL9
 refine yy [⟨0, 0, .light, [3, 5, 7, 9]⟩, ⟨1, 1, .light, [3, 5, 7, 9]⟩, ⟨2, 0, .light, [1, 5, 7, 9]⟩, ⟨3, 4, .light, [1, 5, 7, 9]⟩, ⟨4, 0, .light, [1, 3, 7, 9]⟩, ⟨5, 16, .light, [1, 3, 7, 9]⟩, ⟨6, 0, .light, [1, 3, 5, 9]⟩, ⟨7, 64, .light, [1, 3, 5, 9]⟩, ⟨8, 0, .light, [1, 3, 5, 7, 9]⟩, ⟨9, 0, .light, [1, 3, 5, 7]⟩, ⟨10, 512, .whole, [1, 3, 5, 7]⟩, ⟨11, 2047, .whole, []⟩, ⟨12, 4095, .light, []⟩, ⟨13, 8191, .light, []⟩, ⟨14, 8191, .light, []⟩, ⟨15, 16383, .light, []⟩, ⟨16, 65535, .light, []⟩] (by kernel_rfl) (by kernel_rfl) (zd rfl rfl (zg of27_0 rfl ⟨rfl, (zG rfl rfl yx rfl H.own5 (by exact H.lim5 (by omega)) rfl (zd rfl rfl (zg qH rfl ⟨rfl, (zG rfl rfl sh24 rfl H.own5 (by exact H.lim5 (by omega)) rfl (zd rfl rfl (zg of27_2 rfl ⟨rfl, (zG rfl rfl yx rfl H.own5 (by exact H.lim5 (by omega)) rfl (zd rfl rfl (zg of27_3 rfl ⟨rfl, (zG rfl rfl sh25 rfl H.own5 (by exact H.lim5 (by omega)) rfl (zd rfl rfl (zm rfl ⟨rfl, (yV rfl rfl sh40 rfl H.own0 (by exact H.lim0 (by omega)) rfl (yn rfl rfl (zy rfl fc21 rfl ?_)))⟩)))⟩)))⟩)))⟩)))⟩))
 obtain ⟨_, s9, hr, rfl, Hc⟩ := own_ok hI (Fine.narrow (X := [b9, b9, b9, b9]) H.fine (by intro p hp; simp only [List.mem_cons, List.not_mem_nil, or_false] at hp; rcases hp with h | h | h | h <;> rw [h] <;> first | exact H.lt5)) (by have hmo := H.most; (try simp only at hmo); show _ + _ ≤ _; (try simp only); omega)
 refine ⟨_, _, hr, ?_⟩
 clear hr
 have H := H.call0 (HL.wider H.fine (Nat.le_refl _) (fun _ h => List.mem_append_right _ h) Hc)
 clear Hc
 refine yn rfl rfl (zy rfl fc20 rfl ?_)
 have htx5 := tc14 (n := l5.length) (by omega)
 obtain ⟨_, s9, hr, n2, e2, rfl, hk2, Hc⟩ := check_ok (w := w) (bad := bad) hI H.fine (us_of (SlG.mono hjG (by intro p hp; (try simp only [List.mem_cons, List.mem_append, List.not_mem_nil, or_false] at hp ⊢); first | exact hp | simp only [hp, true_or, or_true])) (SlG.mono hmG (by intro p hp; (try simp only [List.mem_cons, List.mem_append, List.not_mem_nil, or_false] at hp ⊢); first | exact hp | simp only [hp, true_or, or_true])) (SlG.mono h5G (by intro p hp; (try simp only [List.mem_cons, List.mem_append, List.not_mem_nil, or_false] at hp ⊢); first | exact hp | simp only [hp, true_or, or_true])) (fun x hx => (hmay x hx).2.mono (by intro p hp; (try simp only [List.mem_cons, List.mem_append, List.not_mem_nil, or_false] at hp ⊢); first | exact hp | simp only [hp, true_or, or_true])) (fun x hx => (hdir5 x hx).2.elim (fun hd => hd.mono (by intro p hp; (try simp only [List.mem_cons, List.mem_append, List.not_mem_nil, or_false] at hp ⊢); first | exact hp | simp only [hp, true_or, or_true])) (fun hy => by obtain ⟨y, hy, a1, a2, a3, a4, a5, a6⟩ := hy; exact ((hmay y (hsm.1 y hy)).2.mono (by intro p hp; (try simp only [List.mem_cons, List.mem_append, List.not_mem_nil, or_false] at hp ⊢); first | exact hp | simp only [hp, true_or, or_true])).same a1 a2 a3 a4 a5 a6)) H (List.Subset.refl _)) (hu6.sl H (by intro p hp; (try simp only [List.mem_cons, List.mem_append, List.not_mem_nil, or_false] at hp ⊢); first | exact hp | simp only [hp, true_or, or_true])) (hv6.sl H (by intro p hp; (try simp only [List.mem_cons, List.mem_append, List.not_mem_nil, or_false] at hp ⊢); first | exact hp | simp only [hp, true_or, or_true])) hinp (by omega) (by omega) (by omega) (by have hmo := H.most; (try simp only at hmo); show _ + _ ≤ _; (try simp only); omega)
 refine ⟨_, _, hr, ?_⟩
 clear hr
 have H := H.call0 (HL.wider H.fine (Nat.le_refl _) (fun _ h => h) Hc)
 clear Hc
 refine zd rfl rfl (yq rfl ⟨rfl, (zd rfl rfl (zE rfl rfl ⟨rfl, (zd rfl rfl (zE rfl rfl ⟨rfl, (zd rfl rfl (zk rfl ⟨rfl, (zd rfl rfl (zk rfl ⟨rfl, (zV (zx (ze (za rfl (zm rfl (za rfl (z7 qF rfl rfl rfl (za rfl (yz rfl rfl (fun h => ?_) (fun h => ?_))))))))))⟩))⟩))⟩))⟩))⟩)
 ·refine za rfl (zi rfl (za rfl (zf rfl (za rfl (yJ rfl rfl (fun h => False.elim (by rw [h] at hk2; have hq := hk2.short hmk (by omega) herr; have hq2 := hl53 rfl (by omega); omega)) (fun h => ?_))))))
  refine za rfl (zN rfl rfl (zb (zv rfl (zD (zj (yy [⟨0, 0, .light, [3, 5, 8, 14]⟩, ⟨1, 1, .light, [3, 5, 8, 14]⟩, ⟨2, 0, .light, [1, 5, 8, 14]⟩, ⟨3, 4, .light, [1, 5, 8, 14]⟩, ⟨4, 0, .light, [1, 3, 8, 14]⟩, ⟨5, 16, .light, [1, 3, 8, 14]⟩, ⟨6, 0, .light, [1, 3, 5, 8, 14]⟩, ⟨7, 0, .light, [1, 3, 5, 14]⟩, ⟨8, 128, .light, [1, 3, 5, 14]⟩, ⟨9, 384, .light, [1, 3, 5, 14]⟩, ⟨13, 0, .light, [1, 3, 5, 8]⟩, ⟨14, 8192, .light, [1, 3, 5, 8]⟩, ⟨10, 960, .fresh, [1, 3, 5, 14]⟩, ⟨11, 1984, .light, [1, 3, 5, 14]⟩, ⟨12, 4080, .light, [1, 3, 14]⟩, ⟨15, 32767, .fresh, []⟩, ⟨16, 65535, .light, []⟩, ⟨17, 131071, .light, []⟩, ⟨18, 131071, .light, []⟩, ⟨19, 131071, .light, []⟩, ⟨20, 131071, .light, []⟩, ⟨21, 0, .fresh, [1, 3, 5, 8, 14]⟩, ⟨22, 2359295, .light, []⟩, ⟨23, 6815743, .light, []⟩, ⟨24, 15728639, .whole, []⟩, ⟨25, 33554431, .light, []⟩] (by kernel_rfl) (by kernel_rfl) (zd rfl rfl (zg of27_0 rfl ⟨rfl, (zG rfl rfl yx rfl H.own5 (by exact H.lim5 (by omega)) rfl (zd rfl rfl (zg qH rfl ⟨rfl, (zG rfl rfl sh24 rfl H.own5 (by exact H.lim5 (by omega)) rfl (zd rfl rfl (zg of27_2 rfl ⟨rfl, (zG rfl rfl yx rfl H.own5 (by exact H.lim5 (by omega)) rfl ?_)⟩)))⟩)))⟩))))))))
  refine zd rfl rfl (zf rfl ⟨rfl, (zd rfl rfl (zg qH rfl ⟨rfl, (zG rfl rfl sh24 rfl H.own5 (by exact H.lim5 (by omega)) rfl (zd rfl rfl (z7 un24 rfl rfl rfl ⟨rfl, (zd rfl rfl (zg of27_3 rfl ⟨rfl, (zG rfl rfl sh25 rfl H.own5 (by exact H.lim5 (by omega)) rfl (qm rfl rfl (zy rfl fc10 rfl ?_)))⟩))⟩)))⟩))⟩)
  obtain ⟨_, _, hr, rfl, rfl⟩ := qS (a := by_) (n := (js.length : Int)) hI h3 (by omega)
  refine ⟨_, _, hr, rfl, ?_⟩
  clear hr
  have hkr := xH (a := by_) (n := (js.length : Int)) (by omega)
  obtain ⟨m, hme⟩ : ∃ m : Nat, xq by_ (js.length : Int) = (m : Int) := ⟨(xq by_ (js.length : Int)).toNat, by omega⟩
  have hmj : m < js.length := by omega
  rw [hme]
  have hor := or_bit (k := m) hbad.1 hbad.2 (by omega) hmj
  refine zd rfl rfl (op_shl rfl rfl (by omega) (by omega) (by rw [Int.one_mul, Int.toNat_natCast]; have := two_pow_le (n := m) (by omega); unfold zS; omega) ⟨rfl, ?_⟩)
  rw [show (1 : Int) * 2 ^ ((m : Int)).toNat = 2 ^ m by rw [Int.one_mul, Int.toNat_natCast]]
  refine zd rfl rfl (op_or rfl rfl ⟨rfl, (xb rfl rfl (zy rfl fc12 rfl ?_))⟩)
  obtain ⟨_, s9, hr, ob, D9, sx9, p9, q9, hlb, rfl, Hc, hx9, hp9, hq9⟩ := hL _ w (orI bad (2 ^ m)) _ _ js may (Fine.fresh H.fine) ((hjG.sl H (by intro p hp; (try simp only [List.mem_cons, List.mem_append, List.not_mem_nil, or_false] at hp ⊢); first | exact hp | simp only [hp, true_or, or_true])).heap rfl rfl) ((hmG.sl H (by intro p hp; (try simp only [List.mem_cons, List.mem_append, List.not_mem_nil, or_false] at hp ⊢); first | exact hp | simp only [hp, true_or, or_true])).heap rfl rfl) hinp (by (try simp only [List.length_append, List.length_cons, List.length_nil]); omega) (by have hmo := H.most; (try simp only at hmo); show _ + _ ≤ _; (try simp only); omega)
  refine ⟨_, _, hr, ?_⟩
  clear hr
  have H := H.callE (HL.wider H.fine H.fine.wfb (fun _ h => h) Hc)
  clear Hc
  try simp only [List.cons_append, List.nil_append, List.append_assoc] at H
  obtain ⟨sx9a, sx9n, sx9c⟩ := sx9
  have hsn := hx9.slc
  rw [List.length_map] at hsn
  simp only at hsn
  subst hsn
  obtain ⟨p9a, p9n, p9c⟩ := p9
  have hsn := hp9.slc
  rw [List.length_map] at hsn
  simp only at hsn
  subst hsn
  obtain ⟨q9a, q9n, q9c⟩ := q9
  have hsn := hq9.slc
  rw [List.length_map] at hsn
  simp only at hsn
  subst hsn
  simp only [Slc.v]
  have htb := hlb.two (err_okA (by omega) hor.1 (by omega) (by omega) hmk hjb)
  have hmb := bb_mono (js := js) (bad := bad) (bad' := orI bad (2 ^ m)) hmk hmk (fun S h => needs_more hor.2 0 js h) (fun m hm => hm) (w.toNat + 1) w (by omega) (by omega)
  refine zd rfl rfl (yq rfl ⟨rfl, (zd rfl rfl (zE rfl rfl ⟨rfl, (zd rfl rfl (zE rfl rfl ⟨rfl, (zd rfl rfl (zE rfl rfl ⟨rfl, (zd rfl rfl (zE rfl rfl ⟨rfl, ?_⟩))⟩))⟩))⟩))⟩)
  have Hn := (Fine.fresh H.fine).hl
  refine xb rfl rfl (z6 Hn zf36 (by have hmo := H.most; (try simp only at hmo); show _ + _ < _; (try simp only); omega) (fun b31 s31 Hc => ?_))
  have H := H.call (HL.wider H.fine H.fine.wfb (fun _ h => h) Hc)
  clear Hc Hn
  simp only [List.cons_append, List.nil_append] at H
  refine zd rfl rfl (zT rfl ⟨rfl, (zd rfl rfl (zk rfl ⟨rfl, ?_⟩))⟩)
  obtain ⟨LL9, N90, hLL9, hN90, H⟩ := open_list (m := 90000000000000) H (by omega)
  subst hLL9
  refine qR (vs := [.slice _ _ _, .slice _ _ _]) (fr := []) H rfl rfl sz36 rfl rfl rfl rfl rfl rfl (by have hd := H.dist; simp only [List.pairwise_cons, List.mem_cons, List.not_mem_nil, or_false, forall_eq_or_imp, forall_eq, false_imp_iff, implies_true] at hd ⊢; try omega) (by omega) (fun s10 H => ?_)
  refine zd rfl rfl (zk rfl ⟨rfl, (zV (ze (za rfl (zf rfl (za rfl (yM rfl rfl (fun h => ?_) (fun h => ?_)))))))⟩)
  ·refine za rfl (zi rfl (zc rfl (zc rfl (zc rfl (za rfl (zC rfl (za rfl (zi rfl (za rfl (zy rfl fc17 rfl ?_))))))))))
   obtain ⟨_, s9, hr, rfl, Hc⟩ := hV _ H.fine (by have := H.most; omega)
   refine ⟨_, _, hr, ?_⟩
   clear hr
   have H := H.call0 Hc
   clear Hc
   refine za rfl (zN rfl rfl (za rfl (zr rfl (zb (zu (zp (zQ ?_)))))))
   exact ⟨rfl, (H.sub (List.nil_sublist _)).up (by omega)⟩
  refine za rfl (zi rfl (za rfl (zf rfl (za rfl (zf rfl (za rfl (op_geq rfl rfl (fun h => ?_) (fun h => False.elim (by rcases htb with ⟨p, p2⟩ | ⟨p, p2, p3, _⟩ <;> omega)))))))))
  refine za rfl (zw rfl rfl (za rfl (zi rfl (za rfl (zy rfl fc17 rfl ?_)))))
  obtain ⟨_, s9, hr, rfl, Hc⟩ := hV _ H.fine (by have := H.most; omega)
  refine ⟨_, _, hr, ?_⟩
  clear hr
  have H := H.call0 Hc
  clear Hc
  refine za rfl (zN rfl rfl (za rfl (zr rfl (zb (zu (zp (zQ ?_)))))))
  exact ⟨rfl, (H.sub (List.nil_sublist _)).up (by omega)⟩
 refine za rfl (zi rfl (zc rfl (zc rfl (za rfl (zY rfl (zb (zv rfl (zD (zj (yy [⟨0, 0, .light, [3, 5, 8, 14]⟩, ⟨1, 1, .light, [3, 5, 8, 14]⟩, ⟨2, 0, .light, [1, 5, 8, 14]⟩, ⟨3, 4, .light, [1, 5, 8, 14]⟩, ⟨4, 0, .light, [1, 3, 8, 14]⟩, ⟨5, 16, .light, [1, 3, 8, 14]⟩, ⟨6, 0, .light, [1, 3, 5, 8, 14]⟩, ⟨7, 0, .light, [1, 3, 5, 14]⟩, ⟨8, 128, .light, [1, 3, 5, 14]⟩, ⟨9, 384, .light, [1, 3, 5, 14]⟩, ⟨13, 0, .light, [1, 3, 5, 8]⟩, ⟨14, 8192, .light, [1, 3, 5, 8]⟩, ⟨10, 960, .fresh, [1, 3, 5, 14]⟩, ⟨11, 1984, .light, [1, 3, 5, 14]⟩, ⟨12, 4080, .light, [1, 3, 14]⟩, ⟨15, 32767, .fresh, []⟩, ⟨16, 65535, .light, []⟩, ⟨17, 131071, .light, []⟩, ⟨18, 131071, .light, []⟩, ⟨19, 131071, .light, []⟩, ⟨20, 131071, .light, []⟩, ⟨21, 0, .fresh, [1, 3, 5, 8, 14]⟩, ⟨22, 2359295, .light, []⟩, ⟨23, 6815743, .light, []⟩, ⟨24, 15728639, .whole, []⟩, ⟨25, 33554431, .light, []⟩] (by kernel_rfl) (by kernel_rfl) (zd rfl rfl (zg of27_0 rfl ⟨rfl, (zG rfl rfl yx rfl H.own5 (by exact H.lim5 (by omega)) rfl (zd rfl rfl (zg qH rfl ⟨rfl, ?_⟩)))⟩))))))))))))
 refine zG rfl rfl sh24 rfl H.own5 (by exact H.lim5 (by omega)) rfl (zd rfl rfl (zg of27_2 rfl ⟨rfl, (zG rfl rfl yx rfl H.own5 (by exact H.lim5 (by omega)) rfl (zd rfl rfl (zf rfl ⟨rfl, (zd rfl rfl (zg qH rfl ⟨rfl, (zG rfl rfl sh24 rfl H.own5 (by exact H.lim5 (by omega)) rfl (zd rfl rfl (z7 un24 rfl rfl rfl ⟨rfl, (zd rfl rfl (zg of27_3 rfl ⟨rfl, (zG rfl rfl sh25 rfl H.own5 (by exact H.lim5 (by omega)) rfl (qm rfl rfl (zy rfl fc10 rfl ?_)))⟩))⟩)))⟩))⟩)))⟩))
 obtain ⟨_, _, hr, rfl, rfl⟩ := qS (a := by_) (n := (js.length : Int)) hI h3 (by omega)
 refine ⟨_, _, hr, rfl, ?_⟩
 clear hr
 have hkr := xH (a := by_) (n := (js.length : Int)) (by omega)
 obtain ⟨m, hme⟩ : ∃ m : Nat, xq by_ (js.length : Int) = (m : Int) := ⟨(xq by_ (js.length : Int)).toNat, by omega⟩
 have hmj : m < js.length := by omega
 rw [hme]
 have hor := or_bit (k := m) hbad.1 hbad.2 (by omega) hmj
 refine zd rfl rfl (op_shl rfl rfl (by omega) (by omega) (by rw [Int.one_mul, Int.toNat_natCast]; have := two_pow_le (n := m) (by omega); unfold zS; omega) ⟨rfl, ?_⟩)
 rw [show (1 : Int) * 2 ^ ((m : Int)).toNat = 2 ^ m by rw [Int.one_mul, Int.toNat_natCast]]
 refine zd rfl rfl (op_or rfl rfl ⟨rfl, (xb rfl rfl (zy rfl fc12 rfl ?_))⟩)
 obtain ⟨_, s9, hr, ob, D9, sx9, p9, q9, hlb, rfl, Hc, hx9, hp9, hq9⟩ := hL _ w (orI bad (2 ^ m)) _ _ js may (Fine.fresh H.fine) ((hjG.sl H (by intro p hp; (try simp only [List.mem_cons, List.mem_append, List.not_mem_nil, or_false] at hp ⊢); first | exact hp | simp only [hp, true_or, or_true])).heap rfl rfl) ((hmG.sl H (by intro p hp; (try simp only [List.mem_cons, List.mem_append, List.not_mem_nil, or_false] at hp ⊢); first | exact hp | simp only [hp, true_or, or_true])).heap rfl rfl) hinp (by (try simp only [List.length_append, List.length_cons, List.length_nil]); omega) (by have hmo := H.most; (try simp only at hmo); show _ + _ ≤ _; (try simp only); omega)
 refine ⟨_, _, hr, ?_⟩
 clear hr
 have H := H.callE (HL.wider H.fine H.fine.wfb (fun _ h => h) Hc)
 clear Hc
 try simp only [List.cons_append, List.nil_append, List.append_assoc] at H
 obtain ⟨sx9a, sx9n, sx9c⟩ := sx9
 have hsn := hx9.slc
 rw [List.length_map] at hsn
 simp only at hsn
 subst hsn
 obtain ⟨p9a, p9n, p9c⟩ := p9
 have hsn := hp9.slc
 rw [List.length_map] at hsn
 simp only at hsn
 subst hsn
 obtain ⟨q9a, q9n, q9c⟩ := q9
 have hsn := hq9.slc
 rw [List.length_map] at hsn
 simp only at hsn
 subst hsn
 simp only [Slc.v]
 have htb := hlb.two (err_okA (by omega) hor.1 (by omega) (by omega) hmk hjb)
 have hmb := bb_mono (js := js) (bad := bad) (bad' := orI bad (2 ^ m)) hmk hmk (fun S h => needs_more hor.2 0 js h) (fun m hm => hm) (w.toNat + 1) w (by omega) (by omega)
 refine zd rfl rfl (yq rfl ⟨rfl, (zd rfl rfl (zE rfl rfl ⟨rfl, (zd rfl rfl (zE rfl rfl ⟨rfl, (zd rfl rfl (zE rfl rfl ⟨rfl, (zd rfl rfl (zE rfl rfl ⟨rfl, ?_⟩))⟩))⟩))⟩))⟩)
 have Hn := (Fine.fresh H.fine).hl
 refine xb rfl rfl (z6 Hn zf36 (by have hmo := H.most; (try simp only at hmo); show _ + _ < _; (try simp only); omega) (fun b31 s31 Hc => ?_))
 have H := H.call (HL.wider H.fine H.fine.wfb (fun _ h => h) Hc)
 clear Hc Hn
 simp only [List.cons_append, List.nil_append] at H
 refine zd rfl rfl (zT rfl ⟨rfl, (zd rfl rfl (zk rfl ⟨rfl, ?_⟩))⟩)
 obtain ⟨LL9, N90, hLL9, hN90, H⟩ := open_list (m := 90000000000000) H (by omega)
 subst hLL9
 refine qR (vs := [.slice _ _ _, .slice _ _ _]) (fr := []) H rfl rfl sz36 rfl rfl rfl rfl rfl rfl (by have hd := H.dist; simp only [List.pairwise_cons, List.mem_cons, List.not_mem_nil, or_false, forall_eq_or_imp, forall_eq, false_imp_iff, implies_true] at hd ⊢; try omega) (by omega) (fun s11 H => ?_)
 refine zd rfl rfl (zk rfl ⟨rfl, (zV (ze (za rfl (zf rfl (za rfl (yM rfl rfl (fun h => ?_) (fun h => ?_)))))))⟩)
 ·refine za rfl (zi rfl (zc rfl (zc rfl (zc rfl (za rfl (zC rfl (za rfl (zi rfl (za rfl (zy rfl fc17 rfl ?_))))))))))
  obtain ⟨_, s9, hr, rfl, Hc⟩ := hV _ H.fine (by have := H.most; omega)
  refine ⟨_, _, hr, ?_⟩
  clear hr
  have H := H.call0 Hc
  clear Hc
  refine za rfl (zN rfl rfl (za rfl (zr rfl (zb (zu (zp (zQ ?_)))))))
  exact ⟨rfl, (H.sub (List.nil_sublist _)).up (by omega)⟩
 refine za rfl (zi rfl (za rfl (zf rfl (za rfl (zf rfl (za rfl (op_geq rfl rfl (fun h => ?_) (fun h => False.elim (by rcases htb with ⟨p, p2⟩ | ⟨p, p2, p3, _⟩ <;> omega)))))))))
 refine za rfl (zw rfl rfl (za rfl (zi rfl (za rfl (zy rfl fc17 rfl ?_)))))
 obtain ⟨_, s9, hr, rfl, Hc⟩ := hV _ H.fine (by have := H.most; omega)
 refine ⟨_, _, hr, ?_⟩
 clear hr
 have H := H.call0 Hc
 clear Hc
 refine za rfl (zN rfl rfl (za rfl (zr rfl (zb (zu (zp (zQ ?_)))))))
 exact ⟨rfl, (H.sub (List.nil_sublist _)).up (by omega)⟩
end Go.Proofs.YtdejleegamcioaaGreat
