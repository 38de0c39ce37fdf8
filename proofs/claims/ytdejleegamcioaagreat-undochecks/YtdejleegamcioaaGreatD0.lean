/- UndoChecks: for every input it returns true, if the examples are as they should be. -/
import Derived.Test.YtdejleegamcioaaGreatC37
namespace Go.Proofs.YtdejleegamcioaaGreat
open Go Go.M
theorem el34 : elemF Tryz.prog 34 = some (true, 0, 1) := by kernel_rfl
theorem el50 : elemF Tryz.prog 50 = some (true, 0, 2) := by kernel_rfl
theorem fb4 : yx Tryz.f4 (Tryz.f4.body.getD .skip) 4 = true := by kernel_rfl
theorem fc11 : yp Tryz.prog 11 = true := by kernel_rfl
theorem fc13 : yp Tryz.prog 13 = true := by kernel_rfl
theorem fc17 : yp Tryz.prog 17 = true := by kernel_rfl
theorem fc18 : yp Tryz.prog 18 = true := by kernel_rfl
theorem fc20 : yp Tryz.prog 20 = true := by kernel_rfl
theorem fc21 : yp Tryz.prog 21 = true := by kernel_rfl
theorem fc22 : yp Tryz.prog 22 = true := by kernel_rfl
theorem fc9 : yp Tryz.prog 9 = true := by kernel_rfl
theorem sl34 : xn Tryz.prog 34 = some (25, 1, 24, [.slice none 0 0]) := by kernel_rfl
theorem sl50 : xn Tryz.prog 50 = some (40, 2, 48, [.slice none 0 0, .slice none 0 0]) := by kernel_rfl
theorem un34 : Tryz.prog.underlying 34 = some (.slice 25) := by kernel_rfl
theorem un50 : Tryz.prog.underlying 50 = some (.slice 40) := by kernel_rfl
set_option maxHeartbeats 4000000 in
set_option maxRecDepth 10000 in
theorem undoChecks_ok {I : yh} (hI : Plain I) (hV : LivesC I) {s : St} (hf : Fine s) {v : Value} {l : List Int} {how at_ by_ : Int} (hl : SlI s v l) (hin : ∀ x ∈ l, zV x) (h1 : zV how) (h2 : zV at_) (h3 : zV by_) (hroom : s.next + 100000000000000 ≤ zp) :
  ∃ v' s', yJ Tryz.prog I 4 #[v, .int .i64 how, .int .i64 at_, .int .i64 by_] s v' s' ∧ (v' = .bool true ∧ HL [] s s' [] 100000000000000) := by
 have H := hf.hl
 refine yf 4 (hI 4 (by decide) (by decide)) Tryz.func4 rfl fb4 rfl ?_
 refine zf (za rfl (zh (zb (zf (za rfl (xy (za rfl (zx rfl fc9 rfl ?_))))))))
 obtain ⟨_, s9, hr, D, DD, sj, sm, js, may, n, w, bad, rfl, Hc, hjG, hmG, hn, hjl, hjr, hbad, hml, hmay⟩ := made_ok hI H.fine (hl.kept H) hin (by have := H.most; omega)
 refine ⟨_, _, hr, ?_⟩
 clear hr
 have H := H.callE Hc
 clear Hc
 try simp only [List.cons_append, List.nil_append, List.append_assoc] at H
 have hmayI : ∀ x ∈ may, zV x.w ∧ zV x.p := fun x hx => by have h := (hmay x hx).1; simp only [qi, Bool.and_eq_true, decide_eq_true_eq] at h; unfold zV; omega
 have hmk : yZ may := fun x hx => valid_split (hmay x hx).1
 have hinp : ∀ x ∈ may, x.p < 9223372036854775808 := fun x hx => (hmk x hx).2
 have hwr := whole_range hn.1 hn.2.1
 rw [← hn.2.2] at hwr
 have hjb := joins_ok hn.2.1 hjr
 have hjj : ∀ j ∈ js, kf j := fun j hj => (joinsB_all hjb j hj).1
 obtain ⟨sja, sjn, sjc⟩ := sj
 have hsn := hjG.slc
 rw [List.length_map] at hsn
 simp only at hsn
 subst hsn
 obtain ⟨sma, smn, smc⟩ := sm
 have hsn := hmG.slc
 rw [List.length_map] at hsn
 simp only at hsn
 subst hsn
 simp only [Slc.v]
 refine za rfl (yi H zf27 (by omega) (fun b9 s1 H => ?_))
 refine za rfl (yg (vs := [.int _ _, .slice _ _ _, .int _ _, .slice _ _ _]) H sz27 rfl rfl rfl rfl rfl (by omega) (fun s2 H => ?_))
 refine zb (zf (za rfl (zg q7 rfl (za rfl (zn ys rfl H.own0 rfl (za rfl (zg xK rfl (za rfl (zn sh24 rfl H.own0 rfl (za rfl (zg of27_2 rfl (za rfl (zn ys rfl H.own0 rfl (za rfl (zg qm rfl (za rfl (zn sh25 rfl H.own0 rfl (za rfl (zx rfl fc13 rfl ?_)))))))))))))))))))
 obtain ⟨_, s9, hr, o, D3, sx, p1, p2, hli, rfl, Hc, hxG, hp1, hp2⟩ := leastR_ok (w := w) (bad := bad) hI H.fine (hjG.sl H (by intro p hp; (try simp only [List.mem_cons, List.mem_append, List.not_mem_nil, or_false] at hp ⊢); first | exact hp | simp only [hp, true_or, or_true])) (hmG.sl H (by intro p hp; (try simp only [List.mem_cons, List.mem_append, List.not_mem_nil, or_false] at hp ⊢); first | exact hp | simp only [hp, true_or, or_true])) hinp (by omega) (by omega) (by have := H.most; omega)
 refine ⟨_, _, hr, ?_⟩
 clear hr
 have H := H.callE Hc
 clear Hc
 try simp only [List.cons_append, List.nil_append, List.append_assoc] at H
 obtain ⟨sxa, sxn, sxc⟩ := sx
 have hsn := hxG.slc
 rw [List.length_map] at hsn
 simp only at hsn
 subst hsn
 obtain ⟨p1a, p1n, p1c⟩ := p1
 have hsn := hp1.slc
 rw [List.length_map] at hsn
 simp only at hsn
 subst hsn
 obtain ⟨p2a, p2n, p2c⟩ := p2
 have hsn := hp2.slc
 rw [List.length_map] at hsn
 simp only at hsn
 subst hsn
 simp only [Slc.v]
 have hsm := hli.small hmk (by omega) (by omega)
 refine za rfl (yv rfl (za rfl (zF rfl rfl (za rfl (zF rfl rfl (za rfl (zF rfl rfl (za rfl (zF rfl rfl (za rfl (yi H zf40 (by omega) (fun b12 s3 H => ?_))))))))))))
 refine za rfl (zO rfl (za rfl (zl rfl (za rfl (yg (vs := [.slice _ _ _, .slice _ _ _]) H sz40 rfl rfl rfl rfl rfl (by omega) (fun s4 H => ?_))))))
 refine za rfl (zl rfl (zb (zf (za rfl (zk rfl (za rfl (ze rfl (za rfl (ze rfl (za rfl (ze rfl (za rfl (zx rfl fc11 rfl ?_)))))))))))))
 obtain ⟨_, s9, hr, D4, DD4, l4, Hc, h4G, hl4, hl43, hdir4⟩ := bent_ok (how := how) (at_ := at_) (by_ := by_) (l := o.x) hI H.fine (hxG.sl H (by intro p hp; (try simp only [List.mem_cons, List.mem_append, List.not_mem_nil, or_false] at hp ⊢); first | exact hp | simp only [hp, true_or, or_true])) (by omega) (fun x hx => hmayI x (hsm.1 x hx)) h1 h2 h3 (by have hmo := H.most; (try simp only at hmo); show _ + _ ≤ _; (try simp only); omega)
 refine ⟨_, _, hr, ?_⟩
 clear hr
 have H := H.callE Hc
 clear Hc
 try simp only [List.cons_append, List.nil_append, List.append_assoc] at H
 obtain ⟨l4a, l4c, rfl⟩ := h4G.shp
 refine za rfl (zO rfl (zb (yn [⟨0, 0, .light, [8]⟩, ⟨1, 0, .light, [8]⟩, ⟨2, 0, .light, [8]⟩, ⟨3, 0, .light, [8]⟩, ⟨4, 0, .light, [8]⟩, ⟨5, 0, .light, [8]⟩, ⟨7, 0, .light, []⟩, ⟨8, 128, .light, []⟩, ⟨6, 60, .whole, [8]⟩, ⟨9, 511, .whole, []⟩, ⟨10, 1023, .light, []⟩] (by kernel_rfl) (by kernel_rfl) (zd rfl rfl (zk rfl ⟨rfl, (zd rfl rfl (zk rfl ⟨rfl, (zd rfl rfl (zk rfl ⟨rfl, (zd rfl rfl (ze rfl ⟨rfl, (zd rfl rfl (ze rfl ⟨rfl, (zd rfl rfl (ze rfl ⟨rfl, (zd rfl rfl (zg qm rfl ⟨rfl, (zG rfl rfl sh25 rfl H.own1 (by exact H.lim1 (by omega)) rfl (zX rfl rfl (zx rfl fc11 rfl ?_)))⟩))⟩))⟩))⟩))⟩))⟩))⟩)))))
 obtain ⟨_, s9, hr, D5, DD5, l5, Hc, h5G, hl5, hl53, hdir5⟩ := bent_ok (how := by_) (at_ := how) (by_ := at_) (l := l4) hI (Fine.narrow (X := [b9]) H.fine (by intro p hp; simp only [List.mem_cons, List.not_mem_nil, or_false] at hp; rw [hp]; exact H.lt1)) (Sl.prot (X := [b9]) (h4G.sl H (by intro p hp; (try simp only [List.mem_cons, List.mem_append, List.not_mem_nil, or_false] at hp ⊢); first | exact hp | simp only [hp, true_or, or_true]))) (by omega) (fun x hx => (hdir4 x hx).1) h3 h1 h2 (by have hmo := H.most; (try simp only at hmo); show _ + _ ≤ _; (try simp only); omega)
 refine ⟨_, _, hr, ?_⟩
 clear hr
 have H := H.callE (HL.wider H.fine (Nat.le_refl _) (fun _ h => List.mem_append_right _ h) Hc)
 clear Hc
 try simp only [List.cons_append, List.nil_append, List.append_assoc] at H
 obtain ⟨l5a, l5c, rfl⟩ := h5G.shp
 have Hn := H.fine.hl
 refine zX rfl rfl (z8 (c := [.slice _ _ _, .slice _ _ _, .slice _ _ _, .slice _ _ _, .slice _ _ _]) Hn sl34 rfl rfl (by have hmo := H.most; (try simp only at hmo); show _ + _ < _; (try simp only); omega) (fun b58 s58 Hc => ?_))
 have H := H.call (HL.wider H.fine (Nat.le_refl _) (fun _ h => h) Hc)
 clear Hc Hn
 simp only [List.cons_append, List.nil_append] at H
 refine zd rfl rfl (zO rfl ⟨rfl, (zR (zf (za rfl (z7 xj rfl H.own1 rfl (za rfl (ze rfl (za rfl (ze rfl (za rfl (ze rfl (za rfl (zx rfl fc18 rfl ?_))))))))))))⟩)
 obtain ⟨_, s9, hr, E6, u6, v6, ks6, ns6, rfl, Hc, hu6, hv6, hul6, hvl6⟩ := moved_ok (ks := o.ks) (ns := o.ns) (how := how) (at_ := at_) (by_ := by_) hI H.fine (hp1.sl H (by intro p hp; (try simp only [List.mem_cons, List.mem_append, List.not_mem_nil, or_false] at hp ⊢); first | exact hp | simp only [hp, true_or, or_true])) (hp2.sl H (by intro p hp; (try simp only [List.mem_cons, List.mem_append, List.not_mem_nil, or_false] at hp ⊢); first | exact hp | simp only [hp, true_or, or_true])) (by omega) (by omega) h1 h2 h3 (by have hmo := H.most; (try simp only at hmo); show _ + _ ≤ _; (try simp only); omega)
 refine ⟨_, _, hr, ?_⟩
 clear hr
 have H := H.callE Hc
 clear Hc
 try simp only [List.cons_append, List.nil_append, List.append_assoc] at H
 obtain ⟨u6a, u6n, u6c⟩ := u6
 have hsn := hu6.slc
 rw [List.length_map] at hsn
 simp only at hsn
 subst hsn
 obtain ⟨v6a, v6n, v6c⟩ := v6
 have hsn := hv6.slc
 rw [List.length_map] at hsn
 simp only at hsn
 subst hsn
 simp only [Slc.v]
 refine za rfl (yi H zf40 (by omega) (fun b16 s5 H => ?_))
 refine za rfl (yg (vs := [.slice _ _ _, .slice _ _ _]) H sz40 rfl rfl rfl rfl rfl (by omega) (fun s6 H => ?_))
 refine zb (yn [⟨0, 0, .light, [1, 2, 9, 11, 13, 15]⟩, ⟨1, 0, .light, [0, 2, 9, 11, 13, 15]⟩, ⟨2, 0, .light, [0, 1, 9, 11, 13, 15]⟩, ⟨3, 0, .light, [0, 1, 2, 9, 11, 13, 15]⟩, ⟨4, 0, .light, [0, 1, 2, 9, 11, 13, 15]⟩, ⟨5, 0, .light, [0, 1, 2, 9, 11, 13, 15]⟩, ⟨7, 0, .light, [0, 1, 2, 9, 11, 13, 15]⟩, ⟨8, 0, .light, [0, 1, 2, 11, 13, 15]⟩, ⟨9, 256, .light, [0, 1, 2, 11, 13, 15]⟩, ⟨10, 0, .light, [0, 1, 2, 9, 13, 15]⟩, ⟨11, 1024, .light, [0, 1, 2, 9, 13, 15]⟩, ⟨12, 0, .light, [0, 1, 2, 9, 11, 15]⟩, ⟨13, 4096, .light, [0, 1, 2, 9, 11, 15]⟩, ⟨14, 0, .light, [0, 1, 2, 9, 11, 13]⟩, ⟨15, 16384, .light, [0, 1, 2, 9, 11, 13]⟩, ⟨6, 60, .whole, [0, 1, 9, 11, 13, 15]⟩, ⟨16, 65404, .whole, [0, 1]⟩, ⟨17, 131071, .whole, []⟩, ⟨18, 262143, .light, []⟩] (by kernel_rfl) (by kernel_rfl) (yr rfl rfl xj rfl H.own2 (by exact H.lim2 (by omega)) rfl (yr rfl rfl xj rfl H.own0 (by exact H.lim0 (by omega)) rfl (yr rfl rfl xj rfl H.own0 (by exact H.lim0 (by omega)) rfl (zd rfl rfl (ze rfl ⟨rfl, (zd rfl rfl (ze rfl ⟨rfl, (zd rfl rfl (ze rfl ⟨rfl, (zd rfl rfl (y5 (c := [.slice _ _ _, .slice _ _ _]) bf40 rfl ⟨rfl, (zd rfl rfl (zg q7 rfl ⟨rfl, (zG rfl rfl ys rfl H.own3 (by exact H.lim3 (by omega)) rfl (zd rfl rfl (zg xK rfl ⟨rfl, ?_⟩)))⟩))⟩))⟩))⟩))⟩))))))
 refine zG rfl rfl sh24 rfl H.own3 (by exact H.lim3 (by omega)) rfl (zd rfl rfl (zg of27_2 rfl ⟨rfl, (zG rfl rfl ys rfl H.own3 (by exact H.lim3 (by omega)) rfl (zd rfl rfl (zg qm rfl ⟨rfl, (zG rfl rfl sh25 rfl H.own3 (by exact H.lim3 (by omega)) rfl (zX rfl rfl (zx rfl fc18 rfl ?_)))⟩)))⟩))
 obtain ⟨_, s9, hr, E7, u7, v7, ks7, ns7, rfl, Hc, hu7, hv7, hul7, hvl7⟩ := moved_ok (ks := ks6) (ns := ns6) (how := by_) (at_ := how) (by_ := at_) hI (Fine.narrow (X := [b12, b16, b9, b9, b9, b9]) H.fine (by intro p hp; simp only [List.mem_cons, List.not_mem_nil, or_false] at hp; rcases hp with h | h | h | h | h | h <;> rw [h] <;> first | exact H.lt0 | exact H.lt2 | exact H.lt3)) (Sl.prot (X := [b12, b16, b9, b9, b9, b9]) (hu6.sl H (by intro p hp; (try simp only [List.mem_cons, List.mem_append, List.not_mem_nil, or_false] at hp ⊢); first | exact hp | simp only [hp, true_or, or_true]))) (Sl.prot (X := [b12, b16, b9, b9, b9, b9]) (hv6.sl H (by intro p hp; (try simp only [List.mem_cons, List.mem_append, List.not_mem_nil, or_false] at hp ⊢); first | exact hp | simp only [hp, true_or, or_true]))) (by omega) (by omega) h3 h1 h2 (by have hmo := H.most; (try simp only at hmo); show _ + _ ≤ _; (try simp only); omega)
 refine ⟨_, _, hr, ?_⟩
 clear hr
 have H := H.callE (HL.wider H.fine (Nat.le_refl _) (fun _ h => List.mem_append_right _ h) Hc)
 clear Hc
 try simp only [List.cons_append, List.nil_append, List.append_assoc] at H
 obtain ⟨u7a, u7n, u7c⟩ := u7
 have hsn := hu7.slc
 rw [List.length_map] at hsn
 simp only at hsn
 subst hsn
 obtain ⟨v7a, v7n, v7c⟩ := v7
 have hsn := hv7.slc
 rw [List.length_map] at hsn
 simp only at hsn
 subst hsn
 simp only [Slc.v]
 refine zX rfl rfl (zx rfl fc19 rfl ?_)
 obtain ⟨_, s9, hr, E8, u8, v8, ks8, rfl, Hc, hinc8, hks8, hu8, hv8⟩ := numbers_ok (w := w) (bad := bad) hI (Fine.narrow (X := [b12, b16]) H.fine (by intro p hp; simp only [List.mem_cons, List.not_mem_nil, or_false] at hp; rcases hp with h | h <;> rw [h] <;> first | exact H.lt0 | exact H.lt2)) (Sl.prot (X := [b12, b16]) (hjG.sl H (by intro p hp; (try simp only [List.mem_cons, List.mem_append, List.not_mem_nil, or_false] at hp ⊢); first | exact hp | simp only [hp, true_or, or_true]))) (Sl.prot (X := [b12, b16]) (hmG.sl H (by intro p hp; (try simp only [List.mem_cons, List.mem_append, List.not_mem_nil, or_false] at hp ⊢); first | exact hp | simp only [hp, true_or, or_true]))) hjj (by omega) hmk (by omega) (by omega) (by omega) (by have hmo := H.most; (try simp only at hmo); show _ + _ ≤ _; (try simp only); omega)
 refine ⟨_, _, hr, ?_⟩
 clear hr
 have H := H.callE (HL.wider H.fine (Nat.le_refl _) (fun _ h => List.mem_append_right _ h) Hc)
 clear Hc
 try simp only [List.cons_append, List.nil_append, List.append_assoc] at H
 obtain ⟨u8a, u8n, u8c⟩ := u8
 have hsn := hu8.slc
 rw [List.length_map] at hsn
 simp only at hsn
 subst hsn
 obtain ⟨v8a, v8n, v8c⟩ := v8
 have hsn := hv8.slc
 rw [List.length_map] at hsn
 simp only at hsn
 subst hsn
 simp only [Slc.v]
 have hkl8 := rch_len hmk (by omega) (by omega) hinc8 (fun x hx => (hks8 x).mp hx)
 have Hn := H.fine.hl
 refine zX rfl rfl (z8 (c := [.slice _ _ _, .slice _ _ _, .slice _ _ _, .slice _ _ _, .slice _ _ _, .slice _ _ _, .slice _ _ _, .slice _ _ _, .slice _ _ _, .slice _ _ _]) Hn sl50 rfl rfl (by have hmo := H.most; (try simp only at hmo); show _ + _ < _; (try simp only); omega) (fun b81 s81 Hc => ?_))
 have H := H.call (HL.wider H.fine (Nat.le_refl _) (fun _ h => h) Hc)
 clear Hc Hn
 simp only [List.cons_append, List.nil_append] at H
 refine zd rfl rfl (zO rfl ⟨rfl, (zR (zy ?_))⟩)
 obtain ⟨LL, N0, hLL, hN0, H⟩ := open_list (m := 40000000000000) H (by omega)
 have hm9 : (b9, MObj.cells [.int .i64 w, .slice sja js.length sjc, .int .i64 bad, .slice sma may.length smc] 27) ∈ LL := by rw [hLL]; simp only [List.mem_cons, true_or, or_true]
 have hm12 : (b12, MObj.cells [.slice p1a o.ks.length p1c, .slice p2a o.ns.length p2c] 40) ∈ LL := by rw [hLL]; simp only [List.mem_cons, true_or, or_true]
 obtain ⟨PL, hPLe⟩ : ∃ PL : List (Slc × List Sp), PL = [(⟨sxa, o.x.length, sxc⟩, o.x), (⟨l4a, l4.length, l4c⟩, l4), (⟨l5a, l5.length, l5c⟩, l5), (⟨sma, may.length, smc⟩, may), (⟨none, 0, 0⟩, [])] := ⟨_, rfl⟩
 obtain ⟨PV, hPVe⟩ : ∃ PV : List ((Slc × Slc) × (List Int × List Int)), PV = [((⟨p1a, o.ks.length, p1c⟩, ⟨p2a, o.ns.length, p2c⟩), (o.ks, o.ns)), ((⟨u6a, ks6.length, u6c⟩, ⟨v6a, ns6.length, v6c⟩), (ks6, ns6)), ((⟨u7a, ks7.length, u7c⟩, ⟨v7a, ns7.length, v7c⟩), (ks7, ns7)), ((⟨none, 0, 0⟩, ⟨none, 0, 0⟩), ([], [])), ((⟨u8a, ks8.length, u8c⟩, ⟨v8a, (ks8.map (fun q => (bb js bad may q).1)).length, v8c⟩), (ks8, ks8.map (fun q => (bb js bad may q).1)))] := ⟨_, rfl⟩
 have hPLl : PL.length = 5 := by rw [hPLe]; rfl
 have hPVl : PV.length = 5 := by rw [hPVe]; rfl
 have hm58 : (b58, MObj.cells (PL.map (fun p => p.1.v)) 25) ∈ LL := by rw [hLL, hPLe]; simp only [List.map_cons, List.map_nil, Slc.v, List.mem_cons, true_or, or_true]
 have hm81 : (b81, MObj.cells ((PV.map (fun p => [p.1.1.v, p.1.2.v])).flatten) 40) ∈ LL := by rw [hLL, hPVe]; simp only [List.map_cons, List.map_nil, List.flatten_cons, List.flatten_nil, List.cons_append, List.nil_append, Slc.v, List.mem_cons, true_or, or_true]
 have hDD : DD ⊆ LL := (by rw [hLL]; intro p hp; simp only [List.mem_cons, List.mem_append, hp, true_or, or_true])
 have hDD4 : DD4 ⊆ LL := (by rw [hLL]; intro p hp; simp only [List.mem_cons, List.mem_append, hp, true_or, or_true])
 have hDD5 : DD5 ⊆ LL := (by rw [hLL]; intro p hp; simp only [List.mem_cons, List.mem_append, hp, true_or, or_true])
 have hmayD : ∀ x ∈ may, DirIn LL x := fun x hx => (hmay x hx).2.mono hDD
 have hxD : ∀ x ∈ o.x, DirIn LL x := fun x hx => hmayD x (hsm.1 x hx)
 have h4D : ∀ x ∈ l4, DirIn LL x := by
  intro x hx
  rcases (hdir4 x hx).2 with hd | ⟨y, hy, e1, e2, e3, e4, e5, e6⟩
  ·exact hd.mono hDD4
  ·exact (hxD y hy).same e1 e2 e3 e4 e5 e6
 have h5D : ∀ x ∈ l5, DirIn LL x := by
  intro x hx
  rcases (hdir5 x hx).2 with hd | ⟨y, hy, e1, e2, e3, e4, e5, e6⟩
  ·exact hd.mono hDD5
  ·exact (h4D y hy).same e1 e2 e3 e4 e5 e6
 have hjL := SlG.mono hjG (D' := LL) (by rw [hLL]; intro p hp; simp only [List.mem_cons, List.mem_append, hp, true_or, or_true])
 have hmL := SlG.mono hmG (D' := LL) (by rw [hLL]; intro p hp; simp only [List.mem_cons, List.mem_append, hp, true_or, or_true])
 have hxL := SlG.mono hxG (D' := LL) (by rw [hLL]; intro p hp; simp only [List.mem_cons, List.mem_append, hp, true_or, or_true])
 have hPL : ∀ p ∈ PL, SlG LL 62 10 p.1.v (p.2.map Sp.cells) ∧ p.2.length ≤ 14 ∧ ∀ x ∈ p.2, DirIn LL x := by
  intro p hp
  rw [hPLe] at hp
  simp only [List.mem_cons, List.not_mem_nil, or_false] at hp
  rcases hp with rfl | rfl | rfl | rfl | rfl
  ·exact ⟨hxL, by simp only; omega, hxD⟩
  ·exact ⟨SlG.mono h4G (by rw [hLL]; intro p hp; simp only [List.mem_cons, List.mem_append, hp, true_or, or_true]), by simp only; omega, h4D⟩
  ·exact ⟨SlG.mono h5G (by rw [hLL]; intro p hp; simp only [List.mem_cons, List.mem_append, hp, true_or, or_true]), by simp only; omega, h5D⟩
  ·exact ⟨hmL, by simp only; omega, hmayD⟩
  ·exact ⟨.nil 0 rfl rfl, by simp, by simp⟩
 have hPV : ∀ p ∈ PV, SlG LL 23 1 p.1.1.v (p.2.1.map dc) ∧ SlG LL 3 1 p.1.2.v (p.2.2.map dc) ∧ p.2.1.length ≤ 65600 := by
  intro p hp
  rw [hPVe] at hp
  simp only [List.mem_cons, List.not_mem_nil, or_false] at hp
  rcases hp with rfl | rfl | rfl | rfl | rfl
  ·exact ⟨SlG.mono hp1 (by rw [hLL]; intro p hp; simp only [List.mem_cons, List.mem_append, hp, true_or, or_true]), SlG.mono hp2 (by rw [hLL]; intro p hp; simp only [List.mem_cons, List.mem_append, hp, true_or, or_true]), by simp only; omega⟩
  ·exact ⟨SlG.mono hu6 (by rw [hLL]; intro p hp; simp only [List.mem_cons, List.mem_append, hp, true_or, or_true]), SlG.mono hv6 (by rw [hLL]; intro p hp; simp only [List.mem_cons, List.mem_append, hp, true_or, or_true]), by simp only; omega⟩
  ·exact ⟨SlG.mono hu7 (by rw [hLL]; intro p hp; simp only [List.mem_cons, List.mem_append, hp, true_or, or_true]), SlG.mono hv7 (by rw [hLL]; intro p hp; simp only [List.mem_cons, List.mem_append, hp, true_or, or_true]), by simp only; omega⟩
  ·exact ⟨.nil 0 rfl rfl, .nil 0 rfl rfl, by simp⟩
  ·exact ⟨SlG.mono hu8 (by rw [hLL]; intro p hp; simp only [List.mem_cons, List.mem_append, hp, true_or, or_true]), SlG.mono hv8 (by rw [hLL]; intro p hp; simp only [List.mem_cons, List.mem_append, hp, true_or, or_true]), by simp only; omega⟩
 have hUs : ∀ (v : Value) (l : List Sp), SlG LL 62 10 v (l.map Sp.cells) → (∀ x ∈ l, DirIn LL x) → ∀ {s1 : St} {n1 : Nat}, HL [] s s1 LL n1 → UsSt s1 (dgt LL) (.slice sja js.length sjc) (.slice sma may.length smc) v js may l := fun v l hv hd s1 n1 H => ⟨hjL.sl H (fun _ h => h), hmL.sl H (fun _ h => h), hv.sl H (fun _ h => h), fun x hx => ⟨(hmayD x hx).dig H (fun _ h => h), (hmayD x hx).1, (hmayD x hx).2.1⟩, fun x hx => ⟨(hd x hx).dig H (fun _ h => h), (hd x hx).1, (hd x hx).2.1⟩⟩
 have hv01 := SlG.mono hp1 (D' := LL) (by rw [hLL]; intro p hp; simp only [List.mem_cons, List.mem_append, hp, true_or, or_true])
 have hv02 := SlG.mono hp2 (D' := LL) (by rw [hLL]; intro p hp; simp only [List.mem_cons, List.mem_append, hp, true_or, or_true])
 have htx := tc14 (n := o.x.length) (by omega)
 clear hLL hPLe hPVe
 refine zf (za rfl (zh (zb (zH (yu (fun k F s1 => ∃ (G : FF) (i : Nat), F = lay G [(1, .int .i64 how), (3, .int .i64 by_), (9, ptr b9), (10, .slice sxa o.x.length sxc), (12, ptr b12), (15, .slice (some ⟨b58, 0, none⟩) 5 (2 * 5)), (17, .slice (some ⟨b81, 0, none⟩) 5 (2 * 5)), (18, .int .i64 (i : Int))] ∧ HL [] s s1 LL (N0 + 150000000 * i) ∧ i ≤ 5 ∧ k = 5 - i) ?_ 5 _ _ ?_)))))
 rotate_left
 ·exact ⟨_, 0, yb ⟨rfl, rfl, rfl, rfl, rfl, rfl, rfl, rfl, trivial⟩, H.up (by omega), by omega, rfl⟩
 rintro k F s1 ⟨G, i, rfl, H, hi, rfl⟩
 refine zy (zf (za rfl (ze rfl (za rfl (zk rfl (za rfl (zZ un34 rfl rfl rfl (za rfl (ye rfl rfl (fun h => ?_) (fun h => ?_))))))))))
 ·refine zb (zq rfl (zD (zj (zy (zH ?_)))))
  obtain ⟨N1, hN1⟩ : ∃ N1, N1 = N0 + 150000000 * i := ⟨_, rfl⟩
  rw [← hN1] at H
  refine zf (za rfl (zh (zb (zH (yu (fun k F s1 => ∃ (G : FF) (j : Nat), F = lay G [(1, .int .i64 how), (3, .int .i64 by_), (9, ptr b9), (10, .slice sxa o.x.length sxc), (12, ptr b12), (15, .slice (some ⟨b58, 0, none⟩) 5 (2 * 5)), (17, .slice (some ⟨b81, 0, none⟩) 5 (2 * 5)), (18, .int .i64 (i : Int)), (19, .int .i64 (j : Int))] ∧ HL [] s s1 LL (N1 + 30000000 * j) ∧ j ≤ 5 ∧ k = 5 - j) ?_ 5 _ _ ?_)))))
  rotate_left
  ·exact ⟨_, 0, yb ⟨rfl, rfl, rfl, rfl, rfl, rfl, rfl, rfl, rfl, trivial⟩, H.up (by omega), by omega, rfl⟩
  rintro k F s1 ⟨G, j, rfl, H, hj, rfl⟩
  refine zy (zf (za rfl (ze rfl (za rfl (zk rfl (za rfl (zZ un50 rfl rfl rfl (za rfl (ye rfl rfl (fun h => ?_) (fun h => ?_))))))))))
  ·refine zb (zq rfl (zD (zj (zy (zH (yn [⟨0, 0, .light, [3, 5, 7, 11, 15]⟩, ⟨1, 1, .light, [3, 5, 7, 11, 15]⟩, ⟨2, 0, .light, [1, 5, 7, 11, 15]⟩, ⟨3, 4, .light, [1, 5, 7, 11, 15]⟩, ⟨4, 0, .light, [1, 3, 7, 11, 15]⟩, ⟨5, 16, .light, [1, 3, 7, 11, 15]⟩, ⟨6, 0, .light, [1, 3, 5, 11, 15]⟩, ⟨7, 64, .light, [1, 3, 5, 11, 15]⟩, ⟨8, 0, .light, [1, 3, 5, 7, 15]⟩, ⟨9, 0, .light, [1, 3, 5, 7, 15]⟩, ⟨10, 768, .light, [1, 3, 5, 7, 15]⟩, ⟨11, 1792, .light, [1, 3, 5, 7, 15]⟩, ⟨12, 0, .light, [1, 3, 5, 7, 11]⟩, ⟨13, 0, .light, [1, 3, 5, 7, 11]⟩, ⟨14, 12288, .light, [1, 3, 5, 7, 11]⟩, ⟨15, 28672, .light, [1, 3, 5, 7, 11]⟩, ⟨16, 61440, .whole, [1, 3, 5, 7, 11]⟩, ⟨17, 131071, .whole, []⟩, ⟨18, 262143, .light, []⟩, ⟨19, 524287, .light, []⟩, ⟨20, 524287, .light, []⟩, ⟨21, 1048575, .light, []⟩, ⟨22, 4194303, .light, []⟩] (by kernel_rfl) (by kernel_rfl) (zd rfl rfl (zg q7 rfl ⟨rfl, (zG rfl rfl ys rfl (by exact (H.own _ hm9).1) (by exact (by have h9 := (H.own _ hm9).2.1; have hmo := H.most; (try simp only at h9 hmo); omega)) rfl (zd rfl rfl (zg xK rfl ⟨rfl, (zG rfl rfl sh24 rfl (by exact (H.own _ hm9).1) (by exact (by have h9 := (H.own _ hm9).2.1; have hmo := H.most; (try simp only at h9 hmo); omega)) rfl (zd rfl rfl (zg of27_2 rfl ⟨rfl, ?_⟩)))⟩)))⟩))))))))
   refine zG rfl rfl ys rfl (by exact (H.own _ hm9).1) (by exact (by have h9 := (H.own _ hm9).2.1; have hmo := H.most; (try simp only at h9 hmo); omega)) rfl (zd rfl rfl (zg qm rfl ⟨rfl, (zG rfl rfl sh25 rfl (by exact (H.own _ hm9).1) (by exact (by have h9 := (H.own _ hm9).2.1; have hmo := H.most; (try simp only at h9 hmo); omega)) rfl (zd rfl rfl (zk rfl ⟨rfl, (zd rfl rfl (ze rfl ⟨rfl, (zd rfl rfl (zA el34 rfl rfl (by omega) (by omega) ⟨rfl, ?_⟩))⟩))⟩)))⟩))
   obtain ⟨pl, hpl, hplg⟩ := pickL (fun p : Slc × List Sp => p.1.v) PL (k := i) (by rw [hPLl]; omega)
   obtain ⟨hpl1, hpl2, hpl3⟩ := hPL pl hpl
   have htl := tc14 hpl2
   obtain ⟨la, lcp, hlv⟩ := hpl1.shp
   rw [hlv] at hplg hpl1
   refine zG rfl rfl sh25 rfl (H.own _ hm58).1 (by have h9 := (H.own _ hm58).2.1; have hmo := H.most; (try simp only at h9 hmo); omega) hplg (zd rfl rfl (zk rfl ⟨rfl, (zd rfl rfl (ze rfl ⟨rfl, (zd rfl rfl (zA el50 rfl rfl (by omega) (by omega) ⟨rfl, ?_⟩))⟩))⟩))
   obtain ⟨pv, hpv, hpvg⟩ := pick2 (fun p : (Slc × Slc) × (List Int × List Int) => p.1.1.v) (fun p => p.1.2.v) PV (k := j) (by rw [hPVl]; omega)
   obtain ⟨hpv1, hpv2, hpv3⟩ := hPV pv hpv
   obtain ⟨a1, c1, hav⟩ := hpv1.shp
   obtain ⟨a2, c2, hbv⟩ := hpv2.shp
   rw [hav] at hpvg hpv1
   rw [hbv] at hpvg hpv2
   refine yr rfl rfl xj rfl (H.own _ hm81).1 (by have h9 := (H.own _ hm81).2.1; have hmo := H.most; (try simp only at h9 hmo); omega) hpvg (zX rfl rfl (zx rfl fc21 rfl ?_))
   obtain ⟨_, s9, hr, rfl, Hc⟩ := own_ok hI (Fine.narrow (X := [b9, b9, b9, b9, b58]) H.fine (by intro p hp; simp only [List.mem_cons, List.not_mem_nil, or_false] at hp; rcases hp with h | h | h | h | h <;> rw [h] <;> first | exact (H.own _ hm9).2.1 | exact (H.own _ hm58).2.1)) (by have hmo := H.most; (try simp only at hmo); show _ + _ ≤ _; (try simp only); omega)
   refine ⟨_, _, hr, ?_⟩
   clear hr
   have H := H.call0 (HL.wider H.fine (Nat.le_refl _) (fun _ h => List.mem_append_right _ h) Hc)
   clear Hc
   refine zX rfl rfl (zx rfl fc20 rfl ?_)
   obtain ⟨_, s9, hr, n1, e1, rfl, hk1, Hc⟩ := check_ok (w := w) (bad := bad) hI H.fine (hUs _ pl.2 hpl1 hpl3 H) (hpv1.sl H (fun _ h => h)) (hpv2.sl H (fun _ h => h)) hinp (by omega) (by omega) (by omega) (by have hmo := H.most; (try simp only at hmo); show _ + _ ≤ _; (try simp only); omega)
   refine ⟨_, _, hr, ?_⟩
   clear hr
   have H := H.call0 (HL.wider H.fine (Nat.le_refl _) (fun _ h => h) Hc)
   clear Hc
   refine zd rfl rfl (yv rfl ⟨rfl, (zd rfl rfl (zF rfl rfl ⟨rfl, (zd rfl rfl (zF rfl rfl ⟨rfl, (zd rfl rfl (zl rfl ⟨rfl, (zd rfl rfl (zl rfl ⟨rfl, (zR (yn [⟨0, 0, .light, [3, 5, 7, 11, 15]⟩, ⟨1, 1, .light, [3, 5, 7, 11, 15]⟩, ⟨2, 0, .light, [1, 5, 7, 11, 15]⟩, ⟨3, 4, .light, [1, 5, 7, 11, 15]⟩, ⟨4, 0, .light, [1, 3, 7, 11, 15]⟩, ⟨5, 16, .light, [1, 3, 7, 11, 15]⟩, ⟨6, 0, .light, [1, 3, 5, 11, 15]⟩, ⟨7, 64, .light, [1, 3, 5, 11, 15]⟩, ⟨8, 0, .light, [1, 3, 5, 7, 15]⟩, ⟨9, 0, .light, [1, 3, 5, 7, 15]⟩, ⟨10, 768, .light, [1, 3, 5, 7, 15]⟩, ⟨11, 1792, .light, [1, 3, 5, 7, 15]⟩, ⟨12, 0, .light, [1, 3, 5, 7, 11]⟩, ⟨13, 0, .light, [1, 3, 5, 7, 11]⟩, ⟨14, 12288, .light, [1, 3, 5, 7, 11]⟩, ⟨15, 28672, .light, [1, 3, 5, 7, 11]⟩, ⟨16, 65535, .whole, []⟩, ⟨17, 131071, .light, []⟩, ⟨18, 262143, .light, []⟩, ⟨19, 262143, .light, []⟩, ⟨20, 524287, .light, []⟩, ⟨21, 2097151, .light, []⟩] (by kernel_rfl) (by kernel_rfl) (zd rfl rfl (zg q7 rfl ⟨rfl, (zG rfl rfl ys rfl (by exact (H.own _ hm9).1) (by exact (by have h9 := (H.own _ hm9).2.1; have hmo := H.most; (try simp only at h9 hmo); omega)) rfl (zd rfl rfl (zg xK rfl ⟨rfl, (zG rfl rfl sh24 rfl (by exact (H.own _ hm9).1) (by exact (by have h9 := (H.own _ hm9).2.1; have hmo := H.most; (try simp only at h9 hmo); omega)) rfl (zd rfl rfl (zg of27_2 rfl ⟨rfl, ?_⟩)))⟩)))⟩))))⟩))⟩))⟩))⟩))⟩)
   refine zG rfl rfl ys rfl (by exact (H.own _ hm9).1) (by exact (by have h9 := (H.own _ hm9).2.1; have hmo := H.most; (try simp only at h9 hmo); omega)) rfl (zd rfl rfl (zg qm rfl ⟨rfl, (zG rfl rfl sh25 rfl (by exact (H.own _ hm9).1) (by exact (by have h9 := (H.own _ hm9).2.1; have hmo := H.most; (try simp only at h9 hmo); omega)) rfl (zd rfl rfl (zk rfl ⟨rfl, (zd rfl rfl (ze rfl ⟨rfl, (zd rfl rfl (zA el34 rfl rfl (by omega) (by omega) ⟨rfl, (zG rfl rfl sh25 rfl (H.own _ hm58).1 (by have h9 := (H.own _ hm58).2.1; have hmo := H.most; (try simp only at h9 hmo); omega) hplg (zd rfl rfl (zk rfl ⟨rfl, (zd rfl rfl (ze rfl ⟨rfl, (zd rfl rfl (zA el50 rfl rfl (by omega) (by omega) ⟨rfl, (yr rfl rfl xj rfl (H.own _ hm81).1 (by have h9 := (H.own _ hm81).2.1; have hmo := H.most; (try simp only at h9 hmo); omega) hpvg (zX rfl rfl (zx rfl fc22 rfl ?_)))⟩))⟩))⟩)))⟩))⟩))⟩)))⟩))
   obtain ⟨_, s9, hr, n2, e2, rfl, hk2, Hc⟩ := checkR_ok (w := w) (bad := bad) hI H.fine (hUs _ pl.2 hpl1 hpl3 H) (hpv1.sl H (fun _ h => h)) (hpv2.sl H (fun _ h => h)) hinp (by omega) (by omega) (by omega) (by omega) (by have hmo := H.most; (try simp only at hmo); show _ + _ ≤ _; (try simp only); omega)
   refine ⟨_, _, hr, ?_⟩
   clear hr
   have H := H.call0 (HL.wider H.fine (Nat.le_refl _) (fun _ h => h) Hc)
   clear Hc
   refine zd rfl rfl (yv rfl ⟨rfl, (zd rfl rfl (zF rfl rfl ⟨rfl, (zd rfl rfl (zF rfl rfl ⟨rfl, (zd rfl rfl (zl rfl ⟨rfl, (zd rfl rfl (zl rfl ⟨rfl, (zR (zf ?_))⟩))⟩))⟩))⟩))⟩)
   obtain ⟨hn12, he12⟩ := hk1.same hk2
   subst hn12
   subst he12
   refine za rfl (ze rfl (za rfl (ze rfl (za rfl (yG rfl rfl (fun h => False.elim (by exact h rfl)) (fun h => ?_))))))
   refine za rfl (zi rfl (za rfl (ze rfl (za rfl (ze rfl (za rfl (yG rfl rfl (fun h => False.elim (by exact h rfl)) (fun h => ?_))))))))
   refine za rfl (zv rfl rfl (zb (zw rfl (zD (zK (zj (zC (za rfl (ze rfl (za rfl (zW rfl rfl (by unfold zV; omega) (za rfl (zl rfl (zb (zI ?_)))))))))))))))
   exact ⟨5 - (j + 1), by omega, _, j + 1, yb ⟨rfl, rfl, rfl, rfl, rfl, rfl, rfl, rfl, rfl, trivial⟩, H.up (by omega), by omega, rfl⟩
  refine zb (zw rfl (yc (zQ (ya (zY (zK (zj (zC (za rfl (ze rfl (za rfl (zW rfl rfl (by unfold zV; omega) (za rfl (zl rfl ?_))))))))))))))
  refine zb (zI ?_)
  exact ⟨5 - (i + 1), by omega, _, i + 1, yb ⟨rfl, rfl, rfl, rfl, rfl, rfl, rfl, rfl, trivial⟩, H.up (by omega), by omega, rfl⟩
 refine zb (zw rfl (yc (zQ (ya (zY (zj (yn [⟨0, 0, .light, [2, 5, 7]⟩, ⟨1, 0, .light, [5, 7]⟩, ⟨2, 2, .light, [5, 7]⟩, ⟨3, 0, .light, [2, 5, 7]⟩, ⟨4, 0, .light, [2, 7]⟩, ⟨5, 16, .light, [2, 7]⟩, ⟨6, 0, .light, [2, 5, 7]⟩, ⟨7, 0, .light, [2, 5]⟩, ⟨8, 128, .whole, [2, 5]⟩, ⟨9, 511, .whole, []⟩, ⟨10, 1023, .light, []⟩, ⟨11, 2047, .light, []⟩, ⟨12, 2047, .light, []⟩, ⟨13, 4095, .light, []⟩, ⟨14, 16383, .light, []⟩] (by kernel_rfl) (by kernel_rfl) (zd rfl rfl (ze rfl ⟨rfl, (zd rfl rfl (zg xK rfl ⟨rfl, (zG rfl rfl sh24 rfl (by exact (H.own _ hm9).1) (by exact (by have h9 := (H.own _ hm9).2.1; have hmo := H.most; (try simp only at h9 hmo); omega)) rfl (zd rfl rfl (ze rfl ⟨rfl, ?_⟩)))⟩))⟩)))))))))
 refine zd rfl rfl (zg qm rfl ⟨rfl, (zG rfl rfl sh25 rfl (by exact (H.own _ hm9).1) (by exact (by have h9 := (H.own _ hm9).2.1; have hmo := H.most; (try simp only at h9 hmo); omega)) rfl (zd rfl rfl (zk rfl ⟨rfl, (yr rfl rfl xj rfl (by exact (H.own _ hm12).1) (by exact (by have h9 := (H.own _ hm12).2.1; have hmo := H.most; (try simp only at h9 hmo); omega)) rfl (zX rfl rfl (zx rfl fc21 rfl ?_)))⟩)))⟩)
 obtain ⟨_, s9, hr, rfl, Hc⟩ := own_ok hI (Fine.narrow (X := [b9, b9]) H.fine (by intro p hp; simp only [List.mem_cons, List.not_mem_nil, or_false] at hp; rcases hp with h | h <;> rw [h] <;> first | exact (H.own _ hm9).2.1)) (by have hmo := H.most; (try simp only at hmo); show _ + _ ≤ _; (try simp only); omega)
 refine ⟨_, _, hr, ?_⟩
 clear hr
 have H := H.call0 (HL.wider H.fine (Nat.le_refl _) (fun _ h => List.mem_append_right _ h) Hc)
 clear Hc
 refine zX rfl rfl (zx rfl fc20 rfl ?_)
 obtain ⟨_, s9, hr, n1, e1, rfl, hk1, Hc⟩ := check_ok (w := by_) (bad := how) hI H.fine (hUs _ o.x hxL hxD H) (hv01.sl H (fun _ h => h)) (hv02.sl H (fun _ h => h)) hinp (by omega) (by omega) (by omega) (by have hmo := H.most; (try simp only at hmo); show _ + _ ≤ _; (try simp only); omega)
 refine ⟨_, _, hr, ?_⟩
 clear hr
 have H := H.call0 (HL.wider H.fine (Nat.le_refl _) (fun _ h => h) Hc)
 clear Hc
 refine zd rfl rfl (yv rfl ⟨rfl, (zd rfl rfl (zF rfl rfl ⟨rfl, (zd rfl rfl (zF rfl rfl ⟨rfl, (zd rfl rfl (zl rfl ⟨rfl, (zd rfl rfl (zl rfl ⟨rfl, (zR (zf (za rfl (ze rfl (za rfl (zg xK rfl (za rfl (zn sh24 rfl (by exact (H.own _ hm9).1) rfl (za rfl (ze rfl (za rfl (zg qm rfl ?_))))))))))))⟩))⟩))⟩))⟩))⟩)
 refine za rfl (zn sh25 rfl (by exact (H.own _ hm9).1) rfl (za rfl (zk rfl (za rfl (z7 xj rfl (by exact (H.own _ hm12).1) rfl (za rfl (zx rfl fc22 rfl ?_)))))))
 obtain ⟨_, s9, hr, n2, e2, rfl, hk2, Hc⟩ := checkR_ok (w := by_) (bad := how) hI H.fine (hUs _ o.x hxL hxD H) (hv01.sl H (fun _ h => h)) (hv02.sl H (fun _ h => h)) hinp (by omega) (by omega) (by omega) (by omega) (by have hmo := H.most; (try simp only at hmo); show _ + _ ≤ _; (try simp only); omega)
 refine ⟨_, _, hr, ?_⟩
 clear hr
 have H := H.call0 Hc
 clear Hc
 refine za rfl (yv rfl (za rfl (zF rfl rfl (za rfl (zF rfl rfl (za rfl (zl rfl (za rfl (zl rfl (zb (zf ?_)))))))))))
 obtain ⟨hn12, he12⟩ := hk1.same hk2
 subst hn12
 subst he12
 refine za rfl (ze rfl (za rfl (ze rfl (za rfl (yD rfl rfl (fun h => ?_) (fun h => False.elim (by exact h rfl)))))))
 refine za rfl (zi rfl (za rfl (ze rfl (za rfl (ze rfl (za rfl (yD rfl rfl (fun h => ?_) (fun h => False.elim (by exact h rfl)))))))))
 refine za rfl (zM rfl rfl (za rfl (zi rfl (za rfl (zx rfl fc17 rfl ?_)))))
 obtain ⟨_, s9, hr, rfl, Hc⟩ := hV _ H.fine (by have := H.most; omega)
 refine ⟨_, _, hr, ?_⟩
 clear hr
 have H := H.call0 Hc
 clear Hc
 refine za rfl (zM rfl rfl (za rfl (zt rfl (zb (zr (zm (zN ?_)))))))
 exact ⟨rfl, (H.sub (List.nil_sublist _)).up (by omega)⟩
end Go.Proofs.YtdejleegamcioaaGreat
