/- The state in which the recursion runs. -/
/- The recursion of the least cleaning: what it returns and what it keeps. -/
/- The splits of the least cleaning, one after the other. -/
/- The splits of the least cleaning: the closure that takes them. -/
/- What the least cleaning breaks; small facts for the statements. -/
/- What is asked of the examples. -/
import Derived.Test.YtdejleegamcioaaGreatP17
namespace Go.Proofs.YtdejleegamcioaaGreat
open Go Go.M
abbrev ptr (b : Nat) : Value := .pointer (some ⟨b, 0, none⟩)
structure OfSt (s : St) (r bK bJ bB bM bF : Nat) (vj : Value) (bad : Int) (vm : Value) (js : List (Int × Int)) (may : List Sp) (E : List Ent) : Prop where
 gK : s.get bK = some (.cells [.map (some r)] 96)
 lK : bK < s.next
 gJ : s.get bJ = some (.cells [vj] 24)
 lJ : bJ < s.next
 gB : s.get bB = some (.cells [.int .i64 bad] 23)
 lB : bB < s.next
 gM : s.get bM = some (.cells [vm] 25)
 lM : bM < s.next
 gF : s.get bF = some (.cells [.func (.func 41) #[] #[ptr bK, ptr bJ, ptr bB, ptr bM, ptr bF]] 97)
 lF : bF < s.next
 gR : s.get r = some (x9 E)
 lR : r < s.next
 mR : s.may r = true
 sJ : Sl s 30 2 vj (js.map jc)
 sM : Sl s 62 10 vm (may.map Sp.cells)
section
variable {s s' : St} {r bK bJ bB bM bF : Nat} {vj vm : Value} {bad : Int} {js : List (Int × Int)} {may : List Sp} {E E' : List Ent} {L : Hp'} {n : Nat}
theorem oldW (H : HL [r] s s' L n) (hr : s.get r = some (x9 E)) {b : Nat} {c : List Value} {e : TypeId} (hb : b < s.next) (hg : s.get b = some (.cells c e)) : s'.get b = some (.cells c e) := by
 rw [H.kept b hb (by
  intro h
  rw [List.mem_singleton] at h
  subst h
  rw [hr] at hg
  cases hg)]
 exact hg
theorem Sl.keptW {e : TypeId} {sz : Nat} {v : Value} {es : List (List Value)} (h : Sl s e sz v es) (H : HL [r] s s' L n) (hr : s.get r = some (x9 E)) : Sl s' e sz v es := by
 cases h with
 | nil c hv hl => exact .nil c hv hl
 | block b off cap c hv hg hb hcap hc => exact .block b off cap c hv (oldW H hr hb hg) (by have := H.le; omega) hcap hc
theorem OfSt.later (h : OfSt s r bK bJ bB bM bF vj bad vm js may E) (H : HL [r] s s' L n) (hE : (r, x9 E') ∈ L) : OfSt s' r bK bJ bB bM bF vj bad vm js may E' := by
 have hle := H.le
 have ho := H.own _ hE
 exact ⟨oldW H h.gR h.lK h.gK, by have := h.lK; omega, oldW H h.gR h.lJ h.gJ, by have := h.lJ; omega, oldW H h.gR h.lB h.gB, by have := h.lB; omega, oldW H h.gR h.lM h.gM, by have := h.lM; omega, oldW H h.gR h.lF h.gF, by have := h.lF; omega, ho.1, ho.2.1, ho.2.2.1, h.sJ.keptW H h.gR, h.sM.keptW H h.gR⟩
theorem OfSt.hl (h : OfSt s r bK bJ bB bM bF vj bad vm js may E) (hf : Fine s) : HL [r] s s [(r, x9 E)] 0 :=
 ⟨rfl, rfl, hf.wfb, hf.wfp, Nat.le_refl _, Nat.le_refl _, fun p hp => by
  rw [List.mem_singleton] at hp
  subst hp
  exact ⟨h.gR, h.lR, h.mR, .inr (by simp)⟩, by simp, fun _ _ _ => rfl⟩
theorem Sl.heap {s1 s2 : St} {e : TypeId} {sz : Nat} {v : Value} {es : List (List Value)} (h : Sl s1 e sz v es) (hh : s2.heap = s1.heap) (hn : s2.next = s1.next) : Sl s2 e sz v es := by
 cases h with
 | nil c hv hl => exact .nil c hv hl
 | block b off cap c hv hg hb hcap hc => exact .block b off cap c hv (by simp only [St.get, hh] at hg ⊢; exact hg) (by rw [hn]; exact hb) hcap hc
theorem OfSt.narrow (h : OfSt s r bK bJ bB bM bF vj bad vm js may E) {X : List Nat} (hX : r ∉ X) : OfSt { s with prot := X ++ s.prot } r bK bJ bB bM bF vj bad vm js may E := by
 refine ⟨h.gK, h.lK, h.gJ, h.lJ, h.gB, h.lB, h.gM, h.lM, h.gF, h.lF, h.gR, h.lR, ?_, h.sJ.heap rfl rfl, h.sM.heap rfl rfl⟩
 have hm := h.mR
 simp only [St.may, Bool.and_eq_true, Bool.not_eq_true', Bool.eq_false_iff, ne_eq, List.any_eq_true, not_exists, not_and] at hm ⊢
 refine ⟨hm.1, fun p hp he => ?_⟩
 rcases List.mem_append.mp hp with hp | hp
 ·exact hX ((Nat.eq_of_beq_eq_true he) ▸ hp)
 ·exact hm.2 p hp he
theorem Fine.narrow {s : St} (h : Fine s) {X : List Nat} (hX : ∀ p ∈ X, p < s.next) : Fine { s with prot := X ++ s.prot } :=
 ⟨h.wfb, fun p hp => by
  rcases List.mem_append.mp hp with hp | hp
  ·exact hX p hp
  ·exact h.wfp p hp⟩
end
end Go.Proofs.YtdejleegamcioaaGreat
namespace Go.Proofs.YtdejleegamcioaaGreat
open Go Go.M
theorem bf99 : buildF Tryz.prog 99 = some ([.int .i64 0, .int .i64 0, .int .i64 0, .bool false, .slice none 0 0, .bool false, .slice none 0 0, .bool false, .slice none 0 0, .bool false, .slice none 0 0], [(0, 1), (1, 10)]) := by kernel_rfl
theorem fb41 : yw Tryz.f41 (Tryz.f41.body.getD .skip) 6 = true := by kernel_rfl
theorem fc41 : yk Tryz.prog 41 = true := by kernel_rfl
theorem fc42 : yk Tryz.prog 42 = true := by kernel_rfl
theorem of99_0 : offF Tryz.prog 99 0 = some 0 := by kernel_rfl
theorem sh96 : z1 Tryz.prog 96 = some (none) := by kernel_rfl
theorem sh97 : z1 Tryz.prog 97 = some (none) := by kernel_rfl
theorem sh99 : z1 Tryz.prog 99 = some (some 11) := by kernel_rfl
theorem sz99 : yR Tryz.prog 99 = some 11 := by kernel_rfl
theorem un23 : Tryz.prog.underlying 23 = some (.int .i64) := by kernel_rfl
theorem un96 : Tryz.prog.underlying 96 = some (.map 23 99) := by kernel_rfl
theorem zf99 : xQ Tryz.prog 99 = some [.int .i64 0, .int .i64 0, .int .i64 0, .bool false, .slice none 0 0, .bool false, .slice none 0 0, .bool false, .slice none 0 0, .bool false, .slice none 0 0] := by kernel_rfl
theorem zv99 : zeroV Tryz.prog 99 = some (.agg ⟨[.int .i64 0, .int .i64 0, .int .i64 0, .bool false, .slice none 0 0, .bool false, .slice none 0 0, .bool false, .slice none 0 0, .bool false, .slice none 0 0]⟩) := by kernel_rfl
def OfC (I : zJ) (js : List (Int × Int)) (bad : Int) (may : List Sp) (r bK bJ bB bM bF : Nat) (vj vm : Value) (f : Nat) : Prop :=
 ∀ (S : Int), 0 < S → S.toNat < f → ∀ (s : St) (E : List Ent), Fine s → OfSt s r bK bJ bB bM bF vj bad vm js may E → Good js bad may E → s.next + tb may f S ≤ zh →
  ∃ v' s', yE Tryz.prog I 41 #[.int .i64 S, ptr bK, ptr bJ, ptr bB, ptr bM, ptr bF] s v' s' ∧ (∃ E', v' = .int .i64 (bb js bad may S).1 ∧ HL [r] s s' [(r, x9 E')] (tb may f S) ∧ Good js bad may E' ∧ S ∈ ys E' ∧ ∃ X, E' = E ++ X ∧ (∀ e ∈ X, (0 < e.k ∧ e.k ≤ S) ∧ Rch js bad may S e.k) ∧ X.length ≤ tb may f S)
theorem xZ (E X : List Ent) : ys (E ++ X) = ys E ++ ys X := by simp [ys]
theorem key_of_find {E : List Ent} {k : Int} {e : Ent} (h : qF E k = some e) : k ∈ ys E := by
 obtain ⟨h1, rfl⟩ := of_find h
 exact List.mem_map.mpr ⟨e, h1, rfl⟩
theorem foldl_take {may : List Sp} {v : Int → Int} {S : Int} {i : Nat} {a : Int × Sp} (h : i < may.length) : (may.take (i + 1)).foldl (xg v S) a = xg v S ((may.take i).foldl (xg v S) a) (may.getD i default) := by
 rw [List.take_succ_eq_append_getElem h, List.foldl_append]
 simp [List.getD_eq_getElem?_getD, List.getElem?_eq_getElem h]
theorem qh {may : List Sp} {i : Nat} {m : Sp} (h : i < may.length) (hm : m ∈ may.take (i + 1)) : m ∈ may.take i ∨ m = may.getD i default := by
 rw [List.take_succ_eq_append_getElem h, List.mem_append, List.mem_singleton] at hm
 rcases hm with hm | hm
 ·exact .inl hm
 ·right; rw [hm]; simp [List.getD_eq_getElem?_getD, List.getElem?_eq_getElem h]
theorem xR {may : List Sp} {t : Int → Nat} {S : Int} {i : Nat} (h : i < may.length) : tbs t S (may.take (i + 1)) = tbs t S (may.take i) + (if (may.getD i default).w = S then t (may.getD i default).p + t (zB S (may.getD i default).p) else 0) := by
 rw [List.take_succ_eq_append_getElem h, tbs_append]
 simp [tbs, List.getD_eq_getElem?_getD, List.getElem?_eq_getElem h]
theorem tbs_le {may : List Sp} {t : Int → Nat} {S : Int} (i : Nat) : tbs t S (may.take i) ≤ tbs t S may := by
 conv => rhs; rw [← List.take_append_drop i may]
 rw [tbs_append]
 omega
set_option maxHeartbeats 4000000 in
set_option maxRecDepth 10000 in
theorem of_step {I : zJ} (hI : Plain I) {js : List (Int × Int)} {bad : Int} {may : List Sp} (hj : ∀ j ∈ js, joinB j) (hjl : js.length ≤ 16) (hm : xh may) (hml : may.length ≤ 4096) {r bK bJ bB bM bF : Nat} {vj vm : Value} {f : Nat} (ih : OfC I js bad may r bK bJ bB bM bF vj vm f) : OfC I js bad may r bK bJ bB bM bF vj vm (f + 1) := by
 intro S hS hSf s E hf hst hg hroom
 have H := hst.hl hf
 have htb : tb may (f + 1) S = 60 + may.length + tbs (tb may f) S may := rfl
 rw [htb] at hroom
 rw [htb]
 obtain ⟨am, lenm, cm, rfl, hlm⟩ := hst.sM.isSlice
 rw [List.length_map] at hlm
 subst hlm
 refine zY 6 (hI 41 (by decide) (by decide) (by decide) (by decide)) Tryz.func41 rfl fb41 rfl ?_
 refine zc (za rfl (zk (zb (zq ?_))))
 rcases hfe : qF E S with _ | e
 ·refine zc (za rfl (zj sh96 rfl (by exact oldW H hst.gR hst.lK hst.gK) rfl (za rfl (zd rfl (za rfl (op_lookupNone un96 un23 zv99 rfl rfl H.own0 hfe (za rfl (yA rfl (za rfl (zH rfl rfl (za rfl (zH rfl rfl (za rfl (zC H zf99 (by omega) (fun b8 s1 H => ?_)))))))))))))))
  refine za rfl (zD (vs := [.int _ _, .int _ _, .int _ _, .bool _, .slice _ _ _, .bool _, .slice _ _ _, .bool _, .slice _ _ _, .bool _, .slice _ _ _]) H sz99 rfl rfl rfl rfl rfl (by omega) (fun s2 H => ?_))
  refine za rfl (zw rfl (zb (zc (za rfl (zl rfl (zb (zx rfl (zA (zi (zc (za rfl (yN (c := [.int _ _, .int _ _, .int _ _, .bool _, .slice _ _ _, .bool _, .slice _ _ _, .bool _, .slice _ _ _, .bool _, .slice _ _ _]) bf99 rfl (za rfl (zC H zf99 (by omega) (fun b10 s3 H => ?_)))))))))))))))
  refine za rfl (zD (vs := [.int _ _, .int _ _, .int _ _, .bool _, .slice _ _ _, .bool _, .slice _ _ _, .bool _, .slice _ _ _, .bool _, .slice _ _ _]) H sz99 rfl rfl rfl rfl rfl (by omega) (fun s4 H => ?_))
  refine zb (zq (zc (za rfl (zd rfl (za rfl (zj sh24 rfl (by exact oldW H hst.gR hst.lJ hst.gJ) rfl (za rfl (zj y1 rfl (by exact oldW H hst.gR hst.lB hst.gB) rfl (za rfl (zo rfl fc42 rfl ?_))))))))))
  obtain ⟨_, s9, hr, rfl, Hc⟩ := needs_ok (x := S) (bad := bad) hI H.fine (hst.sJ.keptW H hst.gR) hj hjl (by have := H.most; omega)
  refine ⟨_, _, hr, ?_⟩
  clear hr
  have H := H.call0 Hc
  clear Hc
  cases hnd : y7 S bad 0 js
  ·refine za rfl (op_not rfl (zb (zE rfl (zc (za rfl (zf of99_0 rfl (za rfl (zD (vs := [.int _ _]) H sz3 rfl rfl rfl rfl rfl (by omega) (fun s5 H => ?_)))))))))
   refine zb (zc (za rfl (zj sh96 rfl (by exact oldW H hst.gR hst.lK hst.gK) rfl (za rfl (zd rfl (za rfl (z8 sh99 rfl H.own0 rfl (za rfl (op_update2 (e := ⟨S, 0, default⟩) H un96 un23 rfl rfl rfl hfe (by omega) (fun s34 H => ?_))))))))))
   refine zb (zc (za rfl (zk (zb (zF (zV (zt (z6 ?_))))))))
   have hv : ((0 : Int), (default : Sp)) = bb js bad may S := by rw [bb_eq hm hS, if_neg (by rw [hnd]; simp)]
   refine ⟨E ++ [⟨S, 0, default⟩], ?_, (H.drop0.drop0).up (by omega), hg.add (e := ⟨S, 0, default⟩) (not_key hfe) hv (fun h => by rw [hnd] at h; cases h), by rw [xZ]; simp [ys], [⟨S, 0, default⟩], rfl, ?_, by simp; omega⟩
   ·rw [← hv]
    rfl
   ·intro e he
    rw [List.mem_singleton] at he
    subst he
    exact ⟨⟨hS, Int.le_refl _⟩, .self⟩
  refine za rfl (op_not rfl (zb (zx rfl (zA (zi (zq (zc (za rfl (zj sh25 rfl (by exact oldW H hst.gR hst.lM hst.gM) rfl (za rfl (yf un25 rfl rfl rfl (za rfl (xV (zb (zI ?_)))))))))))))))
  refine yP (fun k F s1 => ∃ (G : FF) (i : Nat) (E1 X1 : List Ent) (acc : Int × Sp) (cnt : Nat), F = lay G [(0, .int .i64 S), (1, ptr bK), (2, ptr bJ), (3, ptr bB), (4, ptr bM), (5, ptr bF), (10, ptr b10), (35, .slice am may.length cm), (36, .int .i64 (may.length : Int)), (37, .int .i64 (i : Int))] ∧ HL [r] s s1 [(b10, .cells (.int .i64 acc.1 :: acc.2.cells) 99), (r, x9 E1)] cnt ∧ cnt ≤ 50 + i + tbs (tb may f) S (may.take i) ∧ Good js bad may E1 ∧ E1 = E ++ X1 ∧ (∀ e ∈ X1, (0 < e.k ∧ e.k < S) ∧ Rch js bad may S e.k) ∧ X1.length ≤ tbs (tb may f) S (may.take i) ∧ acc = (may.take i).foldl (xg (fun y => (bb js bad may y).1) S) (65536, default) ∧ (∀ m ∈ may.take i, m.w = S → m.p ∈ ys E1 ∧ zB S m.p ∈ ys E1) ∧ i ≤ may.length ∧ k = may.length - i) ?_ may.length _ _ ?_
  rotate_left
  ·refine ⟨_, 0, E, [], (65536, default), _, yd ⟨rfl, rfl, rfl, rfl, rfl, rfl, rfl, rfl, rfl, rfl, trivial⟩, H.drop1, by simp [tbs], hg, by simp, (by intro e he; cases he), by simp, rfl, (by intro m hmm; simp at hmm), by omega, by omega⟩
  rintro k F s1 ⟨G, i, E1, X1, acc, cnt, rfl, H, hcnt, hg1, hE1, hX1, hXl, hacc, hcl, hi, rfl⟩
  have htk0 := tbs_le (may := may) (t := tb may f) (S := S) i
  refine zc (za rfl (yq rfl rfl (fun h => ?_) (fun h => ?_)))
  ·refine zb (zq (zE rfl (zA (zi (zq (zI ?_))))))
   obtain ⟨bm, ofm, cmm, rfl, hgm, hbm, hcm⟩ := (hst.sM.keptW H hst.gR).atS rfl (show i < may.length by omega)
   refine zc (za rfl (zM el25 rfl rfl (by omega) (by omega) (za rfl (z8 sh62 rfl hgm hcm (za rfl (zC H zf62 (by omega) (fun b12 s6 H => ?_)))))))
   refine za rfl (zD (vs := [.int _ _, .int _ _, .bool _, .slice _ _ _, .bool _, .slice _ _ _, .bool _, .slice _ _ _, .bool _, .slice _ _ _]) H sz62 rfl rfl rfl rfl rfl (by omega) (fun s7 H => ?_))
   refine zb (zq (zc (za rfl (zf xW rfl (za rfl (zj y1 rfl H.own0 rfl (za rfl (zd rfl (za rfl (op_neq rfl rfl (fun h => ?_) (fun h => ?_)))))))))))
   ·refine zb (zE rfl (yn (zX (ye (zi (zv (za rfl (zT rfl rfl (by unfold zQ; omega) (za rfl (zd rfl (zb (zN (⟨may.length - (i + 1), by omega, _, i + 1, E1, X1, acc, _, yd ⟨rfl, rfl, rfl, rfl, rfl, rfl, rfl, rfl, rfl, rfl, trivial⟩, H.drop0, ?_, hg1, hE1, hX1, by rw [xR (show i < may.length by omega), if_neg h]; omega, ?_, ?_, by omega, rfl⟩)))))))))))))
    ·rw [xR (show i < may.length by omega), if_neg h]
     omega
    ·rw [foldl_take (show i < may.length by omega), ← hacc, xg, if_pos h]
    ·intro m hmm hw
     rcases qh (show i < may.length by omega) hmm with hmm | hmm
     ·exact hcl m hmm hw
     ·subst hmm; exact absurd hw h
   refine zb (zx rfl (zA (zi ?_)))
   have hxS : (may.getD i default).w = S := by simpa using h
   obtain ⟨hsp, hpb⟩ := hm (may.getD i default) (yu (by omega))
   obtain ⟨hf1, hf2, hf3, hf4, hf5, hf6⟩ := yU hsp hpb
   rw [hxS] at hf2 hf3 hf4 hf5
   have htk := tbs_le (may := may) (t := tb may f) (S := S) (i + 1)
   rw [xR (show i < may.length by omega), if_pos hxS] at htk
   have hr1 := xD (js := js) (bad := bad) (may := may) (may.getD i default).p
   have hr2 := xD (js := js) (bad := bad) (may := may) (zB S (may.getD i default).p)
   refine yC [⟨0, 0, .light, [2, 4, 7]⟩, ⟨1, 0, .light, [0, 4, 7]⟩, ⟨2, 2, .light, [0, 4, 7]⟩, ⟨4, 0, .light, [0, 2, 7]⟩, ⟨5, 0, .light, [0, 2, 4, 7]⟩, ⟨6, 0, .light, [0, 2, 4]⟩, ⟨7, 64, .light, [0, 2, 4]⟩, ⟨8, 224, .light, [0, 2, 4]⟩, ⟨3, 7, .whole, [4, 7]⟩, ⟨9, 511, .whole, []⟩, ⟨10, 1023, .light, []⟩, ⟨11, 2047, .light, []⟩] (by kernel_rfl) (by kernel_rfl) (zy rfl rfl sh97 rfl (by exact oldW H hst.gR hst.lF hst.gF) (by (have := hst.lF; omega)) rfl (ze rfl rfl (zf xv rfl ⟨rfl, (zy rfl rfl y1 rfl H.own0 (by exact H.lim0 (by omega)) rfl (zy rfl rfl sh97 rfl (by exact oldW H hst.gR hst.lF hst.gF) (by (have := hst.lF; omega)) rfl (ze rfl rfl (zd rfl ⟨rfl, (ze rfl rfl (zf xv rfl ⟨rfl, (zy rfl rfl y1 rfl H.own0 (by exact H.lim0 (by omega)) rfl (ze rfl rfl (op_andNot rfl rfl ⟨rfl, (zU rfl rfl (zo rfl fc41 rfl ?_))⟩)))⟩))⟩))))⟩)))
   have hrF : r ≠ bF := fun e => by have h1 := hst.gR; have h2 := hst.gF; rw [e, h2] at h1; cases h1
   have hd := H.dist
   simp only [List.pairwise_cons, List.mem_cons, List.not_mem_nil, or_false, forall_eq_or_imp, forall_eq, false_imp_iff, implies_true] at hd
   have h12 := H.lt0
   have hlF := hst.lF
   have hle := H.le
   obtain ⟨_, s9, hr, E2, rfl, Hc, hg2, hk2, X2, hX2, hX2b, hX2l⟩ := ih (may.getD i default).p hf1 (by omega) _ E1 (Fine.narrow (X := [bF, b12]) H.fine (by intro p hp; simp only [List.mem_cons, List.not_mem_nil, or_false] at hp; omega)) (OfSt.narrow (X := [bF, b12]) (hst.later H (by simp)) (by simp only [List.mem_cons, List.not_mem_nil, or_false]; omega)) hg1 (by have := H.most; show _ + _ ≤ _; simp only; omega)
   refine ⟨_, _, hr, ?_⟩
   clear hr
   have H := HL.callW (A := [(r, x9 E1)]) (L := [_, _]) (HL.swap (A := [_, _]) (B := [_]) H) (HL.wider H.fine (Nat.le_refl _) (fun _ h => List.mem_append_right _ h) Hc) (by intro b hb; rw [List.mem_singleton] at hb; subst hb; exact ⟨_, List.mem_singleton.mpr rfl⟩) (by intro p hp; rw [List.mem_singleton] at hp; subst hp; simp)
   clear Hc
   simp only [List.cons_append, List.nil_append] at H
   refine zU rfl rfl (zo rfl fc41 rfl ?_)
   obtain ⟨_, s9, hr, E3, rfl, Hc, hg3, hk3, X3, hX3, hX3b, hX3l⟩ := ih (zB S (may.getD i default).p) hf3 (by omega) _ E2 H.fine (hst.later H (by simp)) hg2 (by have := H.most; omega)
   refine ⟨_, _, hr, ?_⟩
   clear hr
   have H := HL.callW (A := [(r, x9 E2)]) (L := [_, _]) H (HL.wider H.fine (Nat.le_refl _) (fun _ h => h) Hc) (by intro b hb; rw [List.mem_singleton] at hb; subst hb; exact ⟨_, List.mem_singleton.mpr rfl⟩) (by intro p hp; rw [List.mem_singleton] at hp; subst hp; simp)
   clear Hc
   simp only [List.cons_append, List.nil_append] at H
   subst hX3
   subst hX2
   subst hE1
   rw [List.append_assoc, List.append_assoc] at H hg3 hk3
   refine ze rfl rfl (zm rfl ⟨rfl, (ze rfl rfl (zm rfl ⟨rfl, (z2 (zc (za rfl (zd rfl (za rfl (zT rfl rfl (by unfold zQ; omega) (za rfl (zd rfl (za rfl (zT rfl rfl (by unfold zQ; omega) (za rfl (zm rfl (zb (zc (za rfl (zd rfl ?_))))))))))))))))⟩))⟩)
   refine za rfl (yq rfl rfl (fun h => ?_) (fun h => ?_))
   ·refine za rfl (zl rfl (za rfl (zd rfl (za rfl (yq rfl rfl (fun h => ?_) (fun h => ?_))))))
    ·refine za rfl (zK rfl rfl (za rfl (zl rfl (za rfl (zd rfl (za rfl (zf of99_0 rfl (za rfl (zj sh3 rfl H.own2 rfl (za rfl (yq rfl rfl (fun h => ?_) (fun h => ?_))))))))))))
     ·refine za rfl (zK rfl rfl (zb (zE rfl (zv (za rfl (zd rfl (za rfl (z8 sh62 rfl H.own1 rfl (za rfl (yN (c := [.int _ _, .int _ _, .int _ _, .bool _, .slice _ _ _, .bool _, .slice _ _ _, .bool _, .slice _ _ _, .bool _, .slice _ _ _]) bf99 rfl (za rfl (op_store2 (vs := [.int _ _, .int _ _, .int _ _, .bool _, .slice _ _ _, .bool _, .slice _ _ _, .bool _, .slice _ _ _, .bool _, .slice _ _ _]) H sz99 rfl rfl rfl rfl rfl (by omega) (fun s8 H => ?_)))))))))))))
      refine zb (zP (zi (zv (za rfl (zT rfl rfl (by unfold zQ; omega) (za rfl (zd rfl (zb (zN (⟨may.length - (i + 1), by omega, _, i + 1, E ++ (X1 ++ (X2 ++ X3)), X1 ++ (X2 ++ X3), (1 + (bb js bad may (may.getD i default).p).1 + (bb js bad may (zB S (may.getD i default).p)).1, (may.getD i default)), _, yd ⟨rfl, rfl, rfl, rfl, rfl, rfl, rfl, rfl, rfl, rfl, trivial⟩, (HL.swap (A := [_]) (B := [_]) H.drop1), ?_, hg3, rfl, ?_, by rw [xR (show i < may.length by omega), if_pos hxS]; simp only [List.length_append]; omega, ?_, ?_, by omega, rfl⟩))))))))))
      ·rw [xR (show i < may.length by omega), if_pos hxS]
       omega
      ·intro e he
       rcases List.mem_append.mp he with he | he
       ·exact hX1 e he
       ·rcases List.mem_append.mp he with he | he
        ·exact ⟨by have := (hX2b e he).1; omega, Rch.trans (Rch.part .self hnd (yu (by omega)) hxS) (hX2b e he).2⟩
        ·exact ⟨by have := (hX3b e he).1; omega, Rch.trans (Rch.rest .self hnd (yu (by omega)) hxS) (hX3b e he).2⟩
      ·rw [foldl_take (show i < may.length by omega), ← hacc, xg, if_neg (by simpa using hxS)]
       rw [if_pos ⟨by assumption, by assumption, by assumption⟩]
      ·intro m hmm hw
       rcases qh (show i < may.length by omega) hmm with hmm | hmm
       ·obtain ⟨q1, q2⟩ := hcl m hmm hw
        rw [← List.append_assoc, xZ]
        exact ⟨List.mem_append_left _ q1, List.mem_append_left _ q2⟩
       ·subst hmm
        refine ⟨?_, hk3⟩
        rw [← List.append_assoc, ← List.append_assoc, xZ]
        exact List.mem_append_left _ hk2
     refine za rfl (zK rfl rfl (zb (zx rfl (zA (zP (zi (zv (za rfl (zT rfl rfl (by unfold zQ; omega) (za rfl (zd rfl (zb (zN (⟨may.length - (i + 1), by omega, _, i + 1, E ++ (X1 ++ (X2 ++ X3)), X1 ++ (X2 ++ X3), acc, _, yd ⟨rfl, rfl, rfl, rfl, rfl, rfl, rfl, rfl, rfl, rfl, trivial⟩, (HL.swap (A := [_]) (B := [_]) H.drop1), ?_, hg3, rfl, ?_, by rw [xR (show i < may.length by omega), if_pos hxS]; simp only [List.length_append]; omega, ?_, ?_, by omega, rfl⟩))))))))))))))
     ·rw [xR (show i < may.length by omega), if_pos hxS]
      omega
     ·intro e he
      rcases List.mem_append.mp he with he | he
      ·exact hX1 e he
      ·rcases List.mem_append.mp he with he | he
       ·exact ⟨by have := (hX2b e he).1; omega, Rch.trans (Rch.part .self hnd (yu (by omega)) hxS) (hX2b e he).2⟩
       ·exact ⟨by have := (hX3b e he).1; omega, Rch.trans (Rch.rest .self hnd (yu (by omega)) hxS) (hX3b e he).2⟩
     ·rw [foldl_take (show i < may.length by omega), ← hacc, xg, if_neg (by simpa using hxS)]
      rw [if_neg (fun hh => by first | exact absurd hh.1 (by assumption) | exact absurd hh.2.1 (by assumption) | exact absurd hh.2.2 (by assumption))]
     ·intro m hmm hw
      rcases qh (show i < may.length by omega) hmm with hmm | hmm
      ·obtain ⟨q1, q2⟩ := hcl m hmm hw
       rw [← List.append_assoc, xZ]
       exact ⟨List.mem_append_left _ q1, List.mem_append_left _ q2⟩
      ·subst hmm
       refine ⟨?_, hk3⟩
       rw [← List.append_assoc, ← List.append_assoc, xZ]
       exact List.mem_append_left _ hk2
    refine za rfl (zK rfl rfl (za rfl (zl rfl (zg rfl (zg rfl (zg rfl (zg rfl (za rfl (zZ rfl (zb (zx rfl (zA (zP (zi ?_))))))))))))))
    refine zv (za rfl (zT rfl rfl (by unfold zQ; omega) (za rfl (zd rfl (zb (zN (⟨may.length - (i + 1), by omega, _, i + 1, E ++ (X1 ++ (X2 ++ X3)), X1 ++ (X2 ++ X3), acc, _, yd ⟨rfl, rfl, rfl, rfl, rfl, rfl, rfl, rfl, rfl, rfl, trivial⟩, (HL.swap (A := [_]) (B := [_]) H.drop1), ?_, hg3, rfl, ?_, by rw [xR (show i < may.length by omega), if_pos hxS]; simp only [List.length_append]; omega, ?_, ?_, by omega, rfl⟩)))))))
    ·rw [xR (show i < may.length by omega), if_pos hxS]
     omega
    ·intro e he
     rcases List.mem_append.mp he with he | he
     ·exact hX1 e he
     ·rcases List.mem_append.mp he with he | he
      ·exact ⟨by have := (hX2b e he).1; omega, Rch.trans (Rch.part .self hnd (yu (by omega)) hxS) (hX2b e he).2⟩
      ·exact ⟨by have := (hX3b e he).1; omega, Rch.trans (Rch.rest .self hnd (yu (by omega)) hxS) (hX3b e he).2⟩
    ·rw [foldl_take (show i < may.length by omega), ← hacc, xg, if_neg (by simpa using hxS)]
     rw [if_neg (fun hh => by first | exact absurd hh.1 (by assumption) | exact absurd hh.2.1 (by assumption) | exact absurd hh.2.2 (by assumption))]
    ·intro m hmm hw
     rcases qh (show i < may.length by omega) hmm with hmm | hmm
     ·obtain ⟨q1, q2⟩ := hcl m hmm hw
      rw [← List.append_assoc, xZ]
      exact ⟨List.mem_append_left _ q1, List.mem_append_left _ q2⟩
     ·subst hmm
      refine ⟨?_, hk3⟩
      rw [← List.append_assoc, ← List.append_assoc, xZ]
      exact List.mem_append_left _ hk2
   refine za rfl (zl rfl (zg rfl (zg rfl (za rfl (zZ rfl (za rfl (zl rfl (zg rfl (zg rfl (zg rfl (zg rfl (za rfl (zZ rfl (zb (zx rfl ?_)))))))))))))))
   refine zA (zP (zi (zv (za rfl (zT rfl rfl (by unfold zQ; omega) (za rfl (zd rfl (zb (zN (⟨may.length - (i + 1), by omega, _, i + 1, E ++ (X1 ++ (X2 ++ X3)), X1 ++ (X2 ++ X3), acc, _, yd ⟨rfl, rfl, rfl, rfl, rfl, rfl, rfl, rfl, rfl, rfl, trivial⟩, (HL.swap (A := [_]) (B := [_]) H.drop1), ?_, hg3, rfl, ?_, by rw [xR (show i < may.length by omega), if_pos hxS]; simp only [List.length_append]; omega, ?_, ?_, by omega, rfl⟩))))))))))
   ·rw [xR (show i < may.length by omega), if_pos hxS]
    omega
   ·intro e he
    rcases List.mem_append.mp he with he | he
    ·exact hX1 e he
    ·rcases List.mem_append.mp he with he | he
     ·exact ⟨by have := (hX2b e he).1; omega, Rch.trans (Rch.part .self hnd (yu (by omega)) hxS) (hX2b e he).2⟩
     ·exact ⟨by have := (hX3b e he).1; omega, Rch.trans (Rch.rest .self hnd (yu (by omega)) hxS) (hX3b e he).2⟩
   ·rw [foldl_take (show i < may.length by omega), ← hacc, xg, if_neg (by simpa using hxS)]
    rw [if_neg (fun hh => by first | exact absurd hh.1 (by assumption) | exact absurd hh.2.1 (by assumption) | exact absurd hh.2.2 (by assumption))]
   ·intro m hmm hw
    rcases qh (show i < may.length by omega) hmm with hmm | hmm
    ·obtain ⟨q1, q2⟩ := hcl m hmm hw
     rw [← List.append_assoc, xZ]
     exact ⟨List.mem_append_left _ q1, List.mem_append_left _ q2⟩
    ·subst hmm
     refine ⟨?_, hk3⟩
     rw [← List.append_assoc, ← List.append_assoc, xZ]
     exact List.mem_append_left _ hk2
  refine zb (zq (zx rfl (yn (zX (yh (ye (zi ?_)))))))
  have hnf : qF E1 S = none := by
   refine find_none_of fun hk => ?_
   rw [hE1, xZ, List.mem_append] at hk
   rcases hk with hk | hk
   ·exact not_key hfe hk
   ·obtain ⟨e, he, hek⟩ := List.mem_map.mp hk
    have := (hX1 e he).1
    omega
  refine zc (za rfl (zj sh96 rfl (by exact oldW H hst.gR hst.lK hst.gK) rfl (za rfl (zd rfl (za rfl (z8 sh99 rfl H.own0 rfl (za rfl (op_update1 (e := ⟨S, acc.1, acc.2⟩) H un96 un23 rfl rfl rfl hnf (by have := tbs_le (may := may) (t := tb may f) (S := S) i; omega) (fun s77 H => ?_)))))))))
  refine zb (zc (za rfl (zf of99_0 rfl (za rfl (zj sh3 rfl H.own0 rfl (za rfl (zm rfl (zb (zF (zt (z6 ?_)))))))))))
  have hi2 : i = may.length := by omega
  rw [hi2, List.take_length] at hacc hcl
  have hv : (acc.1, acc.2) = bb js bad may S := by rw [bb_eq hm hS, if_pos hnd, ← hacc]
  refine ⟨E1 ++ [⟨S, acc.1, acc.2⟩], ?_, H.drop0.up (by have := tbs_le (may := may) (t := tb may f) (S := S) i; omega), hg1.add (e := ⟨S, acc.1, acc.2⟩) (not_key hnf) hv (fun _ m hmm hw => hcl m hmm hw), by rw [xZ]; simp [ys], X1 ++ [⟨S, acc.1, acc.2⟩], by rw [hE1, List.append_assoc], ?_, by have := tbs_le (may := may) (t := tb may f) (S := S) i; simp only [List.length_append, List.length_singleton]; omega⟩
  ·rw [← hv]
   rfl
  ·intro e he
   rcases List.mem_append.mp he with he | he
   ·exact ⟨by have := (hX1 e he).1; omega, (hX1 e he).2⟩
   ·rw [List.mem_singleton] at he
    subst he
    exact ⟨⟨hS, Int.le_refl _⟩, .self⟩
 refine zc (za rfl (zj sh96 rfl (by exact oldW H hst.gR hst.lK hst.gK) rfl (za rfl (zd rfl (za rfl (op_lookupSome (e := e) un96 un23 rfl rfl H.own0 hfe (za rfl (yA rfl (za rfl (zH rfl rfl (za rfl (zH rfl rfl (za rfl (zC H zf99 (by omega) (fun b8 s9 H => ?_)))))))))))))))
 refine za rfl (zD (vs := [.int _ _, .int _ _, .int _ _, .bool _, .slice _ _ _, .bool _, .slice _ _ _, .bool _, .slice _ _ _, .bool _, .slice _ _ _]) H sz99 rfl rfl rfl rfl rfl (by omega) (fun s10 H => ?_))
 refine za rfl (zw rfl (zb (zc (za rfl (zl rfl (zb (zE rfl (zc (za rfl (zf of99_0 rfl (za rfl (zj sh3 rfl H.own0 rfl (za rfl (zm rfl (zb (zF ?_))))))))))))))))
 refine zV (zt (z6 ?_))
 obtain ⟨he1, he2⟩ := of_find hfe
 have hv := hg.val e he1
 rw [he2] at hv
 refine ⟨E, ?_, H.drop0.up (by omega), hg, key_of_find hfe, [], by simp, (by intro e he; cases he), by simp⟩
 show Value.int .i64 e.n = _
 rw [← hv]
theorem of_ok {I : zJ} (hI : Plain I) {js : List (Int × Int)} {bad : Int} {may : List Sp} (hj : ∀ j ∈ js, joinB j) (hjl : js.length ≤ 16) (hm : xh may) (hml : may.length ≤ 4096) {r bK bJ bB bM bF : Nat} {vj vm : Value} : ∀ f, OfC I js bad may r bK bJ bB bM bF vj vm f
 | 0 => fun S _ h => by omega
 | f + 1 => of_step hI hj hjl hm hml (of_ok hI hj hjl hm hml f)
end Go.Proofs.YtdejleegamcioaaGreat
namespace Go.Proofs.YtdejleegamcioaaGreat
open Go Go.M
section
variable {js : List (Int × Int)} {bad : Int} {may : List Sp}
theorem fold_from {v : Int → Int} {S : Int} : ∀ (l : List Sp) (acc : Int × Sp), l.foldl (xg v S) acc = acc ∨ ∃ m ∈ l, m.w = S ∧ v m.p < 65536 ∧ v (zB S m.p) < 65536 ∧ l.foldl (xg v S) acc = (1 + v m.p + v (zB S m.p), m)
 | [], acc => .inl rfl
 | m :: l, acc => by
  simp only [List.foldl_cons]
  rcases fold_from l (xg v S acc m) with h | ⟨x, hx, h⟩
  ·rw [h]
   unfold xg
   by_cases hw : m.w = S
   ·rw [if_neg (by simpa using hw)]
    split
    ·next hc => exact .inr ⟨m, by simp, hw, hc.1, hc.2.1, rfl⟩
    ·exact .inl rfl
   ·rw [if_pos hw]; exact .inl rfl
  ·exact .inr ⟨x, by simp [hx], h⟩
theorem bb_split (hm : xh may) {S : Int} (h0 : 0 < S) (h1 : 0 < (bb js bad may S).1) (h2 : (bb js bad may S).1 < 65536) : y7 S bad 0 js = true ∧ (bb js bad may S).2 ∈ may ∧ (bb js bad may S).2.w = S ∧ (bb js bad may (bb js bad may S).2.p).1 < 65536 ∧ (bb js bad may (zB S (bb js bad may S).2.p)).1 < 65536 ∧
  (bb js bad may S).1 = 1 + (bb js bad may (bb js bad may S).2.p).1 + (bb js bad may (zB S (bb js bad may S).2.p)).1 := by
 have he := bb_eq (js := js) (bad := bad) hm h0
 by_cases hn : y7 S bad 0 js = true
 ·rw [if_pos hn] at he
  rcases fold_from (v := fun x => (bb js bad may x).1) (S := S) may (65536, default) with h | ⟨m, hmm, hw, ha, hb, h⟩
  ·rw [he, h] at h2; simp at h2
  ·rw [h] at he
   rw [he]
   exact ⟨hn, hmm, hw, ha, hb, rfl⟩
 ·rw [if_neg hn] at he
  rw [he] at h1
  simp at h1
def tk (js : List (Int × Int)) (bad : Int) (may : List Sp) : Nat → Int → List Sp
 | 0, _ => []
 | f + 1, S => if 0 < (bb js bad may S).1 then (bb js bad may S).2 :: (tk js bad may f (bb js bad may S).2.p ++ tk js bad may f (zB S (bb js bad may S).2.p)) else []
end
abbrev xm (D : Hp') : List Nat := D.map (·.1)
structure TkSt (s : St) (r bK bO bT : Nat) (E : List Ent) (D : Hp') (so : Slc) (l : List Sp) : Prop where
 gK : s.get bK = some (.cells [.map (some r)] 96)
 lK : bK < s.next
 gT : s.get bT = some (.cells [.func (.func 44) #[] #[ptr bK, ptr bO, ptr bT]] 103)
 lT : bT < s.next
 gR : s.get r = some (x9 E)
 lR : r < s.next
 own : ∀ p, p ∈ ((bO, .cells [so.v] 25) :: D : Hp') → s.get p.1 = some p.2 ∧ p.1 < s.next ∧ s.may p.1 = true
 dist : ((bO, .cells [so.v] 25) :: D : Hp').Pairwise fun p q => p.1 ≠ q.1
 isO : Own 62 10 D so.v (spsC l) l.length
section
variable {s s' : St} {r bK bO bT : Nat} {E : List Ent} {D D' : Hp'} {so so' : Slc} {l l' : List Sp} {L : Hp'} {n : Nat}
theorem TkSt.elem (h : TkSt s r bK bO bT E D so l) {p : Nat × MObj} (hp : p ∈ ((bO, .cells [so.v] 25) :: D : Hp')) : ∃ c e, p.2 = .cells c e ∧ (e = 25 ∨ e = 62) := by
 rcases List.mem_cons.mp hp with rfl | hp
 ·exact ⟨_, _, rfl, .inl rfl⟩
 ·have ho := h.isO
  generalize spsC l = cc at ho
  generalize l.length = ll at ho
  generalize so.v = vv at ho
  cases ho with
  | nil => cases hp
  | block b cap c len hl hcap =>
   rw [List.mem_singleton] at hp
   subst hp
   exact ⟨_, _, rfl, .inr rfl⟩
theorem TkSt.notin (h : TkSt s r bK bO bT E D so l) {b : Nat} {o : MObj} (hg : s.get b = some o) (ho : ∀ c, o ≠ .cells c 25 ∧ o ≠ .cells c 62) : b ∉ bO :: xm D := by
 intro hb
 have : b ∈ xm ((bO, .cells [so.v] 25) :: D) := by simpa using hb
 obtain ⟨p, hp, rfl⟩ := List.mem_map.mp this
 have h1 := (h.own p hp).1
 rw [hg, Option.some.injEq] at h1
 obtain ⟨c, e, h2, h3⟩ := h.elem hp
 rw [h2] at h1
 rcases h3 with rfl | rfl
 ·exact (ho c).1 h1
 ·exact (ho c).2 h1
theorem TkSt.oldK (h : TkSt s r bK bO bT E D so l) (H : HL (bO :: xm D) s s' L n) : s'.get bK = some (.cells [.map (some r)] 96) := by
 rw [H.kept _ h.lK (h.notin h.gK (by intro c; constructor <;> simp))]; exact h.gK
theorem TkSt.oldT (h : TkSt s r bK bO bT E D so l) (H : HL (bO :: xm D) s s' L n) : s'.get bT = some (.cells [.func (.func 44) #[] #[ptr bK, ptr bO, ptr bT]] 103) := by
 rw [H.kept _ h.lT (h.notin h.gT (by intro c; constructor <;> simp))]; exact h.gT
theorem TkSt.oldR (h : TkSt s r bK bO bT E D so l) (H : HL (bO :: xm D) s s' L n) : s'.get r = some (x9 E) := by
 rw [H.kept _ h.lR (h.notin h.gR (by intro c; constructor <;> simp [x9]))]; exact h.gR
theorem TkSt.hl (h : TkSt s r bK bO bT E D so l) (hf : Fine s) : HL (bO :: xm D) s s ((bO, .cells [so.v] 25) :: D) 0 :=
 ⟨rfl, rfl, hf.wfb, hf.wfp, Nat.le_refl _, Nat.le_refl _, fun p hp => ⟨(h.own p hp).1, (h.own p hp).2.1, (h.own p hp).2.2, .inr (by
  have : p.1 ∈ xm ((bO, .cells [so.v] 25) :: D) := List.mem_map.mpr ⟨p, hp, rfl⟩
  simpa using this)⟩, h.dist, fun _ _ _ => rfl⟩
theorem TkSt.later (h : TkSt s r bK bO bT E D so l) (H : HL (bO :: xm D) s s' L n) (hs : ((bO, .cells [so'.v] 25) :: D').Sublist L) (ho : Own 62 10 D' so'.v (spsC l') l'.length) : TkSt s' r bK bO bT E D' so' l' := by
 have hle := H.le
 refine ⟨h.oldK H, by have := h.lK; omega, h.oldT H, by have := h.lT; omega, h.oldR H, by have := h.lR; omega, fun p hp => ?_, H.dist.sublist hs, ho⟩
 obtain ⟨h1, h2, h3, _⟩ := H.own p (hs.subset hp)
 exact ⟨h1, h2, h3⟩
end
end Go.Proofs.YtdejleegamcioaaGreat
namespace Go.Proofs.YtdejleegamcioaaGreat
open Go Go.M
theorem fb44 : yw Tryz.f44 (Tryz.f44.body.getD .skip) 4 = true := by kernel_rfl
theorem fc44 : yk Tryz.prog 44 = true := by kernel_rfl
theorem of99_1 : offF Tryz.prog 99 1 = some 1 := by kernel_rfl
theorem sh103 : z1 Tryz.prog 103 = some (none) := by kernel_rfl
def TkC (I : zJ) (js : List (Int × Int)) (bad : Int) (may : List Sp) (r bK bO bT : Nat) (E : List Ent) (f : Nat) : Prop :=
 ∀ (S : Int), 0 < S → S.toNat < f → S ∈ ys E → (bb js bad may S).1 < 65536 → ∀ (s : St) (D : Hp') (so : Slc) (l : List Sp), Fine s → TkSt s r bK bO bT E D so l → (l.length : Int) + (bb js bad may S).1 ≤ 70000 → s.next + 3 * (2 * (bb js bad may S).1.toNat + 1) ≤ zh →
  ∃ v' s', yE Tryz.prog I 44 #[.int .i64 S, ptr bK, ptr bO, ptr bT] s v' s' ∧ (∃ D' so', v' = .tuple ⟨[]⟩ ∧ HL (bO :: xm D) s s' ((bO, .cells [Slc.v so'] 25) :: D') (3 * (2 * (bb js bad may S).1.toNat + 1)) ∧ Own 62 10 D' so'.v (spsC (l ++ tk js bad may f S)) (l ++ tk js bad may f S).length)
theorem tk_len {js : List (Int × Int)} {bad : Int} {may : List Sp} (hm : xh may) : ∀ (f : Nat) (S : Int), 0 < S → S.toNat < f → (bb js bad may S).1 < 65536 → ((tk js bad may f S).length : Int) = (bb js bad may S).1
 | 0, S, _, h, _ => by omega
 | f + 1, S, h0, h1, h2 => by
  have hr := xD (js := js) (bad := bad) (may := may) S
  simp only [tk]
  split
  ·next hp =>
   obtain ⟨hn, hx, hw, ha, hb, he⟩ := bb_split hm h0 hp h2
   obtain ⟨hs, hpb⟩ := hm _ hx
   obtain ⟨q1, q2, q3, q4, q5, q6⟩ := yU hs hpb
   rw [hw] at q2 q3 q4
   have i1 := tk_len hm f (bb js bad may S).2.p q1 (by omega) ha
   have i2 := tk_len hm f (zB S (bb js bad may S).2.p) q3 (by omega) hb
   simp only [List.length_cons, List.length_append]
   omega
  ·simp only [List.length_nil]; omega
set_option maxHeartbeats 4000000 in
set_option maxRecDepth 10000 in
theorem take_step {I : zJ} (hI : Plain I) {js : List (Int × Int)} {bad : Int} {may : List Sp} (hm : xh may) {r bK bO bT : Nat} {E : List Ent} (hg : Good js bad may E) {f : Nat} (ih : TkC I js bad may r bK bO bT E f) : TkC I js bad may r bK bO bT E (f + 1) := by
 intro S hS hSf hSE hS6 s D so l hf hst hln hroom
 have H := hst.hl hf
 have hrg := xD (js := js) (bad := bad) (may := may) S
 obtain ⟨e, hfe⟩ := find_of_key hSE
 obtain ⟨he1, he2⟩ := of_find hfe
 have hv := hg.val e he1
 rw [he2] at hv
 have hvn : e.n = (bb js bad may S).1 := by rw [← hv]
 have hvx : e.x = (bb js bad may S).2 := by rw [← hv]
 obtain ⟨soa, son, soc⟩ := so
 refine zY 4 (hI 44 (by decide) (by decide) (by decide) (by decide)) Tryz.func44 rfl fb44 rfl ?_
 refine zc (za rfl (zj sh96 rfl (by exact hst.oldK H) rfl (za rfl (zd rfl (za rfl (op_lookupSome (e := e) un96 un23 rfl rfl (hst.oldR H) hfe (za rfl (zC H zf99 (by omega) (fun b5 s1 H => ?_)))))))))
 refine za rfl (zD (vs := [.int _ _, .int _ _, .int _ _, .bool _, .slice _ _ _, .bool _, .slice _ _ _, .bool _, .slice _ _ _, .bool _, .slice _ _ _]) H sz99 rfl rfl rfl rfl rfl (by omega) (fun s2 H => ?_))
 refine zb (zc (za rfl (zf of99_0 rfl (za rfl (zj sh3 rfl H.own0 rfl (za rfl (qc rfl rfl (fun h => ?_) (fun h => ?_))))))))
 ·refine zb (zE rfl ?_)
  obtain ⟨hn, hx, hw, ha, hb, hbe⟩ := bb_split hm hS (by omega) hS6
  obtain ⟨hs1, hpb⟩ := hm _ hx
  obtain ⟨q1, q2, q3, q4, q5, q6⟩ := yU hs1 hpb
  rw [hw] at q2 q3 q4
  rw [← hvx] at q1 q2 q3 q4
  obtain ⟨k1, k2⟩ := hg.clo e he1 (by rw [he2]; exact hn) e.x (by rw [hvx]; exact hx) (by rw [hvx, he2]; exact hw)
  rw [he2] at k2
  have hra := xD (js := js) (bad := bad) (may := may) (bb js bad may S).2.p
  have hrb := xD (js := js) (bad := bad) (may := may) (zB S (bb js bad may S).2.p)
  refine zc (za rfl (zj sh25 rfl H.own1 rfl (za rfl (zf of99_1 rfl (za rfl (z8 sh62 rfl H.own0 rfl (za rfl (ya (c := [.int _ _, .int _ _, .bool _, .slice _ _ _, .bool _, .slice _ _ _, .bool _, .slice _ _ _, .bool _, .slice _ _ _]) H sl25 rfl rfl (by omega) (fun b15 s3 H => ?_)))))))))
  have hgt := H.own0
  have H := HL.swap (A := [_, _]) (B := D) H.drop0
  refine za rfl (yT H hst.isO sl25 un25 rfl rfl rfl (yH hgt rfl) (by decide) rfl rfl (by omega) (by omega) (fun b16 s16 H ho => ?_))
  refine za rfl (op_store2 (vs := [.slice _ _ _]) H sz25 rfl rfl rfl rfl rfl (by omega) (fun s4 H => ?_))
  refine zb ?_
  have hoo : Own 62 10 [(b16, .cells (spsC l ++ e.x.cells) 62)] (Slc.v ⟨some ⟨b16, 0, none⟩, l.length + 1, 2 * (l.length + 1) + 1⟩) (spsC (l ++ [e.x])) (l ++ [e.x]).length := by
   rw [show spsC (l ++ [e.x]) = spsC l ++ e.x.cells from flat_snoc, List.length_append]
   exact ho
  have H : HL (bO :: xm D) s _ [(b5, _), (bO, .cells [Slc.v ⟨some ⟨b16, 0, none⟩, l.length + 1, 2 * (l.length + 1) + 1⟩] 25), (b16, .cells (spsC l ++ e.x.cells) 62)] _ := HL.swap (A := [_]) (B := [_, _]) H
  refine zc (za rfl (zj sh103 rfl (by exact hst.oldT H) rfl (za rfl (zf of99_1 rfl (za rfl (zf xv rfl (za rfl (zj y1 rfl H.own0 rfl (za rfl (zo rfl fc44 rfl ?_))))))))))
  obtain ⟨_, s9, hr, D2, so2, rfl, Hc, ho2⟩ := ih e.x.p q1 (by omega) k1 (by rw [hvx]; exact ha) _ [(b16, .cells (spsC l ++ e.x.cells) 62)] ⟨some ⟨b16, 0, none⟩, l.length + 1, 2 * (l.length + 1) + 1⟩ (l ++ [e.x]) H.fine (hst.later H (.cons _ (List.Sublist.refl _)) hoo) (by simp only [List.length_append, List.length_singleton]; rw [hvx]; omega) (by have := H.most; rw [hvx]; omega)
  refine ⟨_, _, hr, ?_⟩
  clear hr
  have H := HL.callW (A := [_, _]) (L := [_]) (HL.swap (A := [_]) (B := [_, _]) H) Hc (by intro b hb; simp only [List.mem_cons, List.map_cons, List.map_nil, List.not_mem_nil, or_false] at hb; rcases hb with rfl | rfl; { exact ⟨_, List.mem_cons_self⟩ }; { exact ⟨_, List.mem_cons_of_mem _ List.mem_cons_self⟩ }) (by intro p hp; have := List.mem_map_of_mem (f := Prod.fst) hp; exact this)
  clear Hc
  have H := HL.swap (A := _ :: D2) (B := [_]) H
  refine zb (zv (za rfl (zj sh103 rfl (by exact hst.oldT H) rfl (za rfl (zd rfl (za rfl (zf of99_1 rfl (za rfl (zf xv rfl (za rfl (zj y1 rfl H.own0 rfl (za rfl (op_andNot rfl rfl (za rfl (zo rfl fc44 rfl ?_)))))))))))))))
  obtain ⟨_, s9, hr, D3, so3, rfl, Hc, ho3⟩ := ih (zB S e.x.p) q3 (by omega) k2 (by rw [hvx]; exact hb) _ D2 so2 ((l ++ [e.x]) ++ tk js bad may f e.x.p) H.fine (hst.later H (.cons _ (List.Sublist.refl _)) ho2) (by simp only [List.length_append, List.length_singleton]; have := tk_len hm f e.x.p q1 (by omega) (by rw [hvx]; exact ha); rw [hvx] at this ⊢; omega) (by have := H.most; rw [hvx] at this ⊢; omega)
  refine ⟨_, _, hr, ?_⟩
  clear hr
  have H := HL.callW (A := _ :: D2) (L := [_]) (HL.swap (A := [_]) (B := _ :: D2) H) Hc (by intro b hb; obtain ⟨p, hp, rfl⟩ := List.mem_map.mp (show b ∈ xm ((bO, .cells [Slc.v so2] 25) :: D2) from hb); exact ⟨p.2, hp⟩) (by intro p hp; have := List.mem_map_of_mem (f := Prod.fst) hp; exact this)
  clear Hc
  refine zb (nrm_end (end_nil (⟨D3, so3, rfl, H.left.up (by rw [hvx] at *; omega), ?_⟩)))
  rw [tk, if_pos (by omega)]
  rw [hvx, List.append_assoc, List.append_assoc] at ho3
  exact ho3
 refine zb (zx rfl (zA (nrm_end (end_nil (⟨D, ⟨soa, son, soc⟩, rfl, H.drop0.up (by omega), ?_⟩)))))
 rw [tk, if_neg (by omega), List.append_nil]
 exact hst.isO
theorem take_ok {I : zJ} (hI : Plain I) {js : List (Int × Int)} {bad : Int} {may : List Sp} (hm : xh may) {r bK bO bT : Nat} {E : List Ent} (hg : Good js bad may E) : ∀ f, TkC I js bad may r bK bO bT E f
 | 0 => fun S _ h => by omega
 | f + 1 => take_step hI hm hg (take_ok hI hm hg f)
end Go.Proofs.YtdejleegamcioaaGreat
namespace Go.Proofs.YtdejleegamcioaaGreat
open Go Go.M
section
variable {js : List (Int × Int)} {bad : Int} {may : List Sp}
end
theorem valid_split {w p : Int} (h : qo w p = true) : y0 w p = true ∧ p < 9223372036854775808 := by
 simp only [qo, Bool.and_eq_true, decide_eq_true_eq] at h
 obtain ⟨⟨⟨⟨h1, h2⟩, h3, h4⟩, h5⟩, h6⟩ := h
 refine ⟨?_, by omega⟩
 obtain ⟨a, rfl⟩ := Int.eq_ofNat_of_zero_le (show 0 ≤ w by omega)
 obtain ⟨b, rfl⟩ := Int.eq_ofNat_of_zero_le (show 0 ≤ p by omega)
 have ha := x7 (a := a) (by omega)
 have hb := x7 (a := b) (by omega)
 have hz : BitVec.ofInt 64 (b : Int) &&& BitVec.ofInt 64 (a : Int) = BitVec.ofInt 64 (b : Int) := by
  apply BitVec.eq_of_toNat_eq
  rw [andI_nat (by omega) (by omega)] at h5
  rw [BitVec.toNat_and, ha, hb]
  omega
 have hz2 : BitVec.ofInt 64 (b : Int) &&& ~~~ BitVec.ofInt 64 (a : Int) = 0#64 := by
  rw [← hz, BitVec.and_assoc]
  simp
 have hr : zB (b : Int) (a : Int) = 0 := by
  unfold zB bitsI
  simp only
  rw [hz2]
  decide
 simp only [y0, Bool.and_eq_true, decide_eq_true_eq]
 exact ⟨⟨⟨⟨by omega, by omega⟩, by omega⟩, hr⟩, h6⟩
end Go.Proofs.YtdejleegamcioaaGreat
namespace Go.Proofs.YtdejleegamcioaaGreat
open Go Go.M
def LivesC (I : zJ) : Prop := ∀ (s : St), Fine s → s.next + 1000000 ≤ zh → ∃ v' s', yE Tryz.prog I 17 #[] s v' s' ∧ (v' = .bool true ∧ HL [] s s' [] 1000000)
theorem SlG.slc {D : Hp'} {e : TypeId} {sz : Nat} {x : Slc} {es : List (List Value)} (h : SlG D e sz x.v es) : x.n = es.length := by
 cases h with
 | nil c hv hl => subst hl; simp only [Slc.v, Value.slice.injEq] at hv; exact hv.2.1
 | block b off cap c hv => simp only [Slc.v, Value.slice.injEq] at hv; exact hv.2.1
end Go.Proofs.YtdejleegamcioaaGreat
