/- order.builder: the function that it makes. -/
import Derived.Test.YtdejleegamcioaaGreatP31
namespace Go.Proofs.YtdejleegamcioaaGreat
open Go Go.M
theorem fb136 : yw Tryz.f136 (Tryz.f136.body.getD .skip) 1 = true := by kernel_rfl
theorem fc135 : yk Tryz.prog 135 = true := by kernel_rfl
theorem bf162 : buildF Tryz.prog 162 = some ([.int .i64 0, .int .i64 0], [(0, 1), (1, 1)]) := by kernel_rfl
theorem fc134 : yk Tryz.prog 134 = true := by kernel_rfl
theorem fc136 : yk Tryz.prog 136 = true := by kernel_rfl
theorem xj : offF Tryz.prog 162 1 = some 1 := by kernel_rfl
theorem sh162 : z1 Tryz.prog 162 = some (some 2) := by kernel_rfl
theorem sh221 : z1 Tryz.prog 221 = some (none) := by kernel_rfl
theorem xK : yR Tryz.prog 162 = some 2 := by kernel_rfl
theorem un221 : Tryz.prog.underlying 221 = some (.map 23 162) := by kernel_rfl
theorem zf162 : xQ Tryz.prog 162 = some [.int .i64 0, .int .i64 0] := by kernel_rfl
theorem zv4 : zeroV Tryz.prog 4 = some (.bool false) := by kernel_rfl
theorem fb134 : yw Tryz.f134 (Tryz.f134.body.getD .skip) 6 = true := by kernel_rfl
theorem zv162 : zeroV Tryz.prog 162 = some (.agg ⟨[.int .i64 0, .int .i64 0]⟩) := by kernel_rfl
set_option maxHeartbeats 4000000 in
set_option maxRecDepth 10000 in
theorem cost_ok {I : zJ} (hI : Plain I) {s : St} (hf : Fine s) {x : Sp} (h1 : 0 < x.p) (h2 : x.p ≤ 63) (h3 : 0 < zB x.w x.p) (h4 : zB x.w x.p ≤ 63) (hroom : s.next + 2 ≤ zh) :
    ∃ v' s', yE Tryz.prog I 136 #[.agg ⟨x.cells⟩] s v' s' ∧ (∃ c : Int, v' = .int .i64 c ∧ 0 ≤ c ∧ c ≤ 6 ∧ HL [] s s' [] 2) := by
  have H := hf.hl
  have hs1 := size_pc (s := x.p) (by omega) h2
  have hs2 := size_pc (s := zB x.w x.p) (by omega) h4
  have hq1 := pc_six x.p.toNat
  have hq2 := pc_six (zB x.w x.p).toNat
  refine zY 1 (hI 136 (by decide) (by decide) (by decide) (by decide)) Tryz.func136 rfl fb136 rfl ?_
  refine zc (za rfl (xc H rfl (by omega) (fun b1 s1 H => ?_)))
  refine za rfl (zk (zb (yC [⟨0, 0, .light, [3]⟩, ⟨1, 1, .light, [3]⟩, ⟨3, 0, .light, [1]⟩, ⟨2, 3, .whole, [3]⟩, ⟨4, 15, .whole, []⟩, ⟨5, 31, .whole, []⟩, ⟨6, 63, .whole, []⟩, ⟨7, 127, .light, []⟩] (by kernel_rfl) (by kernel_rfl) (ze rfl rfl (zf xv rfl ⟨rfl, (zy rfl rfl y1 rfl H.own0 (by exact H.lim0 (by omega)) rfl (yI rfl rfl sh62 rfl H.own0 (by exact H.lim0 (by omega)) rfl (zU rfl rfl (zo rfl fc135 rfl ?_))))⟩)))))
  obtain ⟨_, _, hr, rfl, rfl⟩ := size_ok (x := x.p) hI
  refine ⟨_, _, hr, ?_⟩
  clear hr
  refine zU rfl rfl (zo rfl fc82 rfl ?_)
  obtain ⟨_, s9, hr, rfl, Hc⟩ := orest_ok (x := x) hI H.fine (by have := H.most; omega)
  refine ⟨_, _, hr, ?_⟩
  clear hr
  have H := H.call0 (HL.wider H.fine (Nat.le_refl _) (fun _ h => h) Hc)
  clear Hc
  refine zU rfl rfl (zo rfl fc135 rfl ?_)
  obtain ⟨_, _, hr, rfl, rfl⟩ := size_ok (x := (zB x.w x.p)) hI
  refine ⟨_, _, hr, ?_⟩
  clear hr
  refine zU rfl rfl (op_min rfl rfl rfl (ze rfl rfl (zm rfl ⟨rfl, (z2 (zF (zt (z6 ?_))))⟩)))
  refine ⟨_, rfl, ?_, ?_, H.drop0⟩ <;> omega
def bt (m : Nat) : Nat → Nat
  | 0 => 10
  | k + 1 => 20 + m * (2 * bt m k + 20)
theorem bt_le (m : Nat) : ∀ {a b : Nat}, a ≤ b → bt m a ≤ bt m b := by
  have h1 : ∀ k, bt m k ≤ bt m (k + 1) := by
    intro k
    induction k with
    | zero => simp only [bt]; omega
    | succ k ih =>
      have := Nat.mul_le_mul_left m (show 2 * bt m k + 20 ≤ 2 * bt m (k + 1) + 20 by omega)
      rw [bt, bt]
      omega
  intro a b h
  induction b with
  | zero => have : a = 0 := by omega
            subst this; exact Nat.le_refl _
  | succ b ih =>
    by_cases e : a = b + 1
    · subst e; exact Nat.le_refl _
    · exact Nat.le_trans (ih (by omega)) (h1 b)
def BdC (I : zJ) (kb km fb fm ob om bb mb : Nat) (vm : Value) (may : List Sp) (Ef : yV) (E : OfE) (m f : Nat) : Prop :=
  ∀ (S : Int), 0 < S → S < 64 → S.toNat < f → ∀ (s : St) (K : KnE), Fine s → BdSt s kb km fb fm ob om bb mb vm may Ef E K → KOK may K → s.next + bt m (pcN S.toNat) ≤ zh →
    ∃ v' s', yE Tryz.prog I 134 #[.int .i64 S, ptr kb, ptr fb, ptr ob, ptr bb, ptr mb] s v' s' ∧ (∃ (K' : KnE) (sp sm : Int), v' = .tuple ⟨[bV sp sm, .bool (decide (0 ≤ sm))]⟩ ∧ HL [km] s s' [(km, yG (knM K'))] (bt m (pcN S.toNat)) ∧ KOK may K' ∧ (S, sp, sm) ∈ K' ∧ ∃ X, K' = K ++ X ∧ ∀ e ∈ X, e.1 ≤ S)
theorem pick3 {W : List Nat} {s0 s : St} {n : Nat} {p q r t u : Nat × MObj} (H : HL W s0 s [p, q, r, t, u] n) : HL W s0 s [t, u, p] n := by
  have h1 : ([p, q, r] ++ [t, u]).Perm ([t, u] ++ [p, q, r]) := List.perm_append_comm
  exact (HL.perm H h1).sub (.cons_cons _ (.cons_cons _ (.cons_cons _ (.cons _ (.cons _ (List.Sublist.refl _))))))
set_option maxHeartbeats 4000000 in
set_option maxRecDepth 10000 in
theorem build_tail {I : zJ} (hI : Plain I) {kb km fb fm ob om bb mb : Nat} {vm : Value} {may : List Sp} {Ef : yV} {E : OfE} {m f : Nat} (hm : xh may) (hml : may.length ≤ 100) (hm100 : m ≤ 100) (hok : OfOK may m E) (hbm : BoolM Ef) (ih : BdC I kb km fb fm ob om bb mb vm may Ef E m f) {S : Int} (hS : 0 < S) (hS1 : S < 64) (hSf : S.toNat < f + 1) {s s1 : St} {K : KnE} (hf : Fine s) (hst : BdSt s kb km fb fm ob om bb mb vm may Ef E K) (hK : KOK may K) (hnf : ∀ e ∈ K, e.1 ≠ S)
    (hroom : s.next + bt m (pcN S.toNat) ≤ zh) {G : FF} {b7 b9 b11 : Nat} {c9 : List Value} {sm0 : Int} (hb0 : BestOK may K S (-1) sm0)
    (H : HL [km] s s1 [(b11, .cells [.int .i64 (-1), .int .i64 sm0] 162), (b9, .cells c9 162), (b7, .cells [.int .i64 0, .int .i64 0] 162), (km, yG (knM K))] 3) :
    y3 Tryz.prog I (dropS 4 (Tryz.f134.body.getD .skip)) (lay G [(0, .int .i64 S), (1, ptr kb), (2, ptr fb), (3, ptr ob), (4, ptr bb), (5, ptr mb), (7, ptr b7), (11, ptr b11)]) s1 (retQ Tryz.prog Tryz.f134.results.toList (fun v' s' => ∃ (K' : KnE) (sp sm : Int), v' = .tuple ⟨[bV sp sm, .bool (decide (0 ≤ sm))]⟩ ∧ HL [km] s s' [(km, yG (knM K'))] (bt m (pcN S.toNat)) ∧ KOK may K' ∧ (S, sp, sm) ∈ K' ∧ ∃ X, K' = K ++ X ∧ ∀ e ∈ X, e.1 ≤ S)) := by
  have H := H.drop1
  obtain ⟨am, lm, cm, rfl, hn⟩ := hst.sM.isSlice
  rw [List.length_map] at hn
  subst hn
  obtain ⟨a42, c42, l, hlook, hsl, hlm, hidx⟩ := hst.idx hok S
  have hpS := pc_one (w := S.toNat) (by omega) (by omega)
  have hpS6 := pc_six S.toNat
  obtain ⟨B, hB⟩ : ∃ B, B = bt m (pcN S.toNat - 1) := ⟨_, rfl⟩
  obtain ⟨T, hT⟩ : ∃ T, T = 2 * B + 20 := ⟨_, rfl⟩
  have hbt : bt m (pcN S.toNat) = 20 + m * T := by
    rw [hT, hB]
    conv => lhs; rw [show pcN S.toNat = (pcN S.toNat - 1) + 1 by omega]
    rfl
  rw [hbt] at hroom
  rw [hbt]
  have hlT : l.length * T ≤ m * T := Nat.mul_le_mul_right _ hlm
  refine zq (zc (za rfl (zj sh220 rfl (by exact oldM H hst.gR hst.lO hst.gO) rfl (za rfl (zd rfl (za rfl (op_lookD un220 un23 zv22 rfl rfl ((oldMm H hst.lOm hst.nOm).trans hst.gOm) hlook (za rfl (yf xO rfl rfl rfl (za rfl (xV (zb (zI (yP (fun k F s1 => ∃ (G : FF) (i : Nat) (K1 X1 : KnE) (sp sm : Int) (cnt : Nat), F = lay G [(0, .int .i64 S), (1, ptr kb), (2, ptr fb), (3, ptr ob), (4, ptr bb), (5, ptr mb), (7, ptr b7), (11, ptr b11), (42, .slice a42 l.length c42), (43, .int .i64 (l.length : Int)), (44, .int .i64 (i : Int))] ∧ HL [km] s s1 [(b11, .cells [.int .i64 sp, .int .i64 sm] 162), (b7, .cells [.int .i64 0, .int .i64 0] 162), (km, yG (knM K1))] cnt ∧ cnt ≤ 5 + i * T ∧ KOK may K1 ∧ K1 = K ++ X1 ∧ (∀ e ∈ X1, e.1 < S) ∧ BestOK may K1 S sp sm ∧ i ≤ l.length ∧ k = l.length - i) ?_ l.length _ _ ?_))))))))))))))
  rotate_left
  · exact ⟨_, 0, K, [], -1, sm0, _, yd ⟨rfl, rfl, rfl, rfl, rfl, rfl, rfl, rfl, rfl, rfl, rfl, trivial⟩, H, by omega, hK, by simp, (fun e he => by cases he), hb0, by omega, by omega⟩
  rintro k F s1 ⟨G, i, K1, X1, sp, sm, cnt, rfl, H, hcnt, hK1, hK1e, hX1, hbest, hi, rfl⟩
  have hT0 : i * T ≤ l.length * T := Nat.mul_le_mul_right _ hi
  refine zc (za rfl (yq rfl rfl (fun h => ?_) (fun h => ?_)))
  · refine zb (zq (zE rfl (zA (zi (zq (zI (zc ?_)))))))
    obtain ⟨b, off, c0, rfl, hg, hb, hc⟩ := (hsl.keptM H hst.gR).atD (i := (i : Int)) (k := i) rfl (by omega)
    obtain ⟨j, hj, hjm, hjw⟩ := hidx (l.getD i 0) (yu (by omega))
    refine za rfl (zM el22 rfl rfl (by omega) (by omega) (za rfl (zj sh3 rfl hg hc ?_)))
    rw [hj]
    refine za rfl (zm rfl (zb (zq ?_)))
    cases hfm2 : firmB Ef S
    · refine zc (za rfl (zj sh164 rfl (by exact oldM H hst.gR hst.lF hst.gF) rfl (za rfl (zd rfl (za rfl (op_lookD (v := .bool false) un164 un23 zv4 rfl rfl ((oldMm H hst.lFm hst.nFm).trans hst.gFm) (by rw [firm_get hbm, hfm2]) (za rfl (op_not rfl (zb (zE rfl (yn (zX (blk_exit rfl (zX (yh ?_)))))))))))))))
      refine ye (zi ?_)
      have hne1 : ∀ e ∈ K1, e.1 ≠ S := by
        intro e he
        rw [hK1e] at he
        rcases List.mem_append.mp he with he | he
        · exact hnf e he
        · have := hX1 e he; omega
      have hT0 : i * T ≤ l.length * T := Nat.mul_le_mul_right _ hi
      have rS := hbest.range hS hS1
      refine zc (za rfl (zj sh221 rfl (by exact oldM H hst.gR hst.lK hst.gK) rfl (za rfl (zd rfl (za rfl (z8 sh162 rfl H.own0 rfl (za rfl (op_updV [_, _] (y := bV sp sm) H un221 un23 rfl rfl rfl (by omega) (fun s70 H => ?_)))))))))
      simp only [List.cons_append, List.nil_append] at H
      rw [knM_put hne1] at H
      refine zb (yC [⟨0, 0, .light, [2]⟩, ⟨1, 0, .light, [0]⟩, ⟨2, 2, .light, [0]⟩, ⟨3, 6, .light, [0]⟩, ⟨4, 1, .whole, [2]⟩, ⟨5, 31, .light, []⟩] (by kernel_rfl) (by kernel_rfl) (yI rfl rfl sh162 rfl H.own0 (by exact H.lim0 (by omega)) rfl (ze rfl rfl (zf xj rfl ⟨rfl, (zy rfl rfl sh3 rfl H.own0 (by exact H.lim0 (by omega)) rfl (ze rfl rfl (qd rfl rfl (fun h => ⟨rfl, ?_⟩) (fun h => ⟨rfl, ?_⟩))))⟩))))
      · refine y5 (vs := [.int _ _, .int _ _]) (fr := [_]) H rfl rfl xK rfl rfl rfl rfl rfl rfl (by have hd := H.dist; simp only [List.pairwise_cons, List.mem_cons, List.not_mem_nil, or_false, forall_eq_or_imp, forall_eq, false_imp_iff, implies_true] at hd ⊢; try omega) (by omega) (fun s1 H => ?_)
        refine ze rfl rfl (zw rfl ⟨rfl, (z2 (zF (zt (end_ct sh162 rfl H.own1 rfl rfl (⟨K1 ++ [(S, sp, sm)], sp, sm, by first | (rw [decide_eq_true h]; rfl) | (rw [decide_eq_false h]; rfl), (H.drop0.drop0).up (by omega), hK1.add hbest hne1, by simp, X1 ++ [(S, sp, sm)], by rw [hK1e, List.append_assoc], ?_⟩)))))⟩)
        intro e he
        rcases List.mem_append.mp he with he | he
        · have := hX1 e he; omega
        · rw [List.mem_singleton] at he; subst he; exact Int.le_refl _
      refine y5 (vs := [.int _ _, .int _ _]) (fr := [_]) H rfl rfl xK rfl rfl rfl rfl rfl rfl (by have hd := H.dist; simp only [List.pairwise_cons, List.mem_cons, List.not_mem_nil, or_false, forall_eq_or_imp, forall_eq, false_imp_iff, implies_true] at hd ⊢; try omega) (by omega) (fun s2 H => ?_)
      refine ze rfl rfl (zw rfl ⟨rfl, (z2 (zF (zt (end_ct sh162 rfl H.own1 rfl rfl (⟨K1 ++ [(S, sp, sm)], sp, sm, by first | (rw [decide_eq_true h]; rfl) | (rw [decide_eq_false h]; rfl), (H.drop0.drop0).up (by omega), hK1.add hbest hne1, by simp, X1 ++ [(S, sp, sm)], by rw [hK1e, List.append_assoc], ?_⟩)))))⟩)
      intro e he
      rcases List.mem_append.mp he with he | he
      · have := hX1 e he; omega
      · rw [List.mem_singleton] at he; subst he; exact Int.le_refl _
    refine zc (za rfl (zj sh164 rfl (by exact oldM H hst.gR hst.lF hst.gF) rfl (za rfl (zd rfl (za rfl (op_lookD (v := .bool true) un164 un23 zv4 rfl rfl ((oldMm H hst.lFm hst.nFm).trans hst.gFm) (by rw [firm_get hbm, hfm2]) (za rfl (op_not rfl (zb (zx rfl (zA (zi ?_))))))))))))
    obtain ⟨hsp, hpb⟩ := hm (may.getD j default) (yu hjm)
    obtain ⟨hf1, hf2, hf3, hf4, hf5, hf6⟩ := yU hsp hpb
    have hand := split_and hsp hpb
    rw [hjw] at hf2 hf3 hf4 hf5 hf6 hand
    have hpp := pc_parts (w := S.toNat) (p := (may.getD j default).p.toNat) (by omega) (by omega) hand
    rw [show S.toNat - (may.getD j default).p.toNat = (zB S (may.getD j default).p).toNat by rw [hf6]; omega] at hpp
    have hp1 := pc_one (w := (may.getD j default).p.toNat) (by omega) (by omega)
    have hp2 := pc_one (w := (zB S (may.getD j default).p).toNat) (by omega) (by omega)
    have hB1 : bt m (pcN (may.getD j default).p.toNat) ≤ B := by rw [hB]; exact bt_le m (by omega)
    have hB2 : bt m (pcN (zB S (may.getD j default).p).toNat) ≤ B := by rw [hB]; exact bt_le m (by omega)
    have hT2 : (i + 1) * T = i * T + T := Nat.succ_mul i T
    have hT1 : (i + 1) * T ≤ l.length * T := Nat.mul_le_mul_right _ (by omega)
    have rS := hbest.range hS hS1
    refine yC [⟨0, 0, .light, [1, 5, 10]⟩, ⟨1, 0, .light, [0, 10]⟩, ⟨2, 0, .light, [0, 1, 10]⟩, ⟨3, 6, .light, [0, 10]⟩, ⟨4, 14, .light, [0, 10]⟩, ⟨5, 30, .light, [0, 10]⟩, ⟨10, 0, .new, [0, 1, 5]⟩, ⟨6, 63, .whole, [10]⟩, ⟨7, 127, .light, [10]⟩, ⟨8, 255, .light, [10]⟩, ⟨9, 255, .light, [10]⟩, ⟨11, 1535, .whole, []⟩, ⟨12, 4095, .light, []⟩] (by kernel_rfl) (by kernel_rfl) ?_
    obtain ⟨_, _, cm3, e3, hgm3, hbm4, hcm3⟩ := (hst.sM.keptM H hst.gR).atS (i := (j : Int)) (k := j) rfl hjm
    subst e3
    refine zy rfl rfl sh159 rfl (by exact oldM H hst.gR hst.lB hst.gB) (by (have := hst.lB; have := hst.lM; have := hst.lK; have := hst.lO; have := hst.lF; have := H.most; omega)) rfl (zy rfl rfl sh25 rfl (by exact oldM H hst.gR hst.lM hst.gM) (by (have := hst.lB; have := hst.lM; have := hst.lK; have := hst.lO; have := hst.lF; have := H.most; omega)) rfl (ze rfl rfl (zd rfl ⟨rfl, (ze rfl rfl (zM el25 rfl rfl (by omega) (by omega) ⟨rfl, (ze rfl rfl (zf xv rfl ⟨rfl, ?_⟩))⟩))⟩)))
    obtain ⟨c2, hg2, _, hp2c⟩ := Sl.gotS (hst.sM.keptM H hst.gR) (k := j) hjm
    refine zy rfl rfl y1 rfl hg2 (by have := hbm4; have := H.most; omega) hp2c (dr_new rfl rfl H zf162 (by omega) (fun b14 s3 H => ?_))
    refine zU rfl rfl (zo rfl fc134 rfl ?_)
    have hd := H.dist
    simp only [List.pairwise_cons, List.mem_cons, List.not_mem_nil, or_false, forall_eq_or_imp, forall_eq, false_imp_iff, implies_true] at hd
    have hltb := H.lt0
    have hle := H.le
    obtain ⟨_, s9, hr, K2, sp1, sm1, rfl, Hc, hK2, mK2, X2, eK2, bK2⟩ := ih (may.getD j default).p (by omega) (by omega) (by omega) _ K1 (Fine.narrow (X := [b14]) H.fine (by intro p hp; rw [List.mem_singleton] at hp; rw [hp]; exact hltb)) (BdSt.narrow (X := [b14]) (hst.later H (by simp)) (by simp only [List.mem_cons, List.not_mem_nil, or_false]; omega)) hK1 (by have hmo := H.most; (try simp only at hmo); show _ + _ ≤ _; (try simp only); omega)
    refine ⟨_, _, hr, ?_⟩
    clear hr
    have H := HL.callW (A := [_]) (L := [_, _, _]) (HL.swap (A := [_, _, _]) (B := [_]) H) (HL.wider H.fine (Nat.le_refl _) (fun _ h => List.mem_append_right _ h) Hc) (by intro b hb; rw [List.mem_singleton] at hb; subst hb; exact ⟨_, List.mem_singleton.mpr rfl⟩) (by intro p hp; rw [List.mem_singleton] at hp; subst hp; simp)
    clear Hc hd hltb hle
    simp only [List.cons_append, List.nil_append] at H
    have rK2 := (hK2.1 _ mK2).range (by omega) (by omega)
    simp only at rK2
    cases hd1 : decide (0 ≤ sm1)
    · refine ze rfl rfl (yA rfl ⟨rfl, (ze rfl rfl (zH rfl rfl ⟨rfl, (ze rfl rfl (zH rfl rfl ⟨rfl, (y5 (vs := [.int _ _, .int _ _]) (fr := []) H rfl rfl xK rfl rfl rfl rfl rfl rfl (by have hd := H.dist; simp only [List.pairwise_cons, List.mem_cons, List.not_mem_nil, or_false, forall_eq_or_imp, forall_eq, false_imp_iff, implies_true] at hd ⊢; try omega) (by omega) (fun s4 H => ?_))⟩))⟩))⟩)
      refine ze rfl rfl (zw rfl ⟨rfl, (z2 (yC [⟨0, 0, .light, [1, 4, 10]⟩, ⟨1, 0, .light, [0, 10]⟩, ⟨2, 0, .light, [0, 1, 10]⟩, ⟨3, 6, .light, [0, 10]⟩, ⟨4, 14, .light, [0, 10]⟩, ⟨10, 0, .new, [0, 1, 4]⟩, ⟨5, 30, .whole, [0, 10]⟩, ⟨6, 63, .whole, [10]⟩, ⟨7, 127, .light, [10]⟩, ⟨8, 255, .light, [10]⟩, ⟨9, 255, .light, [10]⟩, ⟨11, 1535, .whole, []⟩, ⟨12, 4095, .light, []⟩] (by kernel_rfl) (by kernel_rfl) (zy rfl rfl sh159 rfl (by exact oldM H hst.gR hst.lB hst.gB) (by (have := hst.lB; have := hst.lM; have := hst.lK; have := hst.lO; have := hst.lF; have := H.most; omega)) rfl (zy rfl rfl sh25 rfl (by exact oldM H hst.gR hst.lM hst.gM) (by (have := hst.lB; have := hst.lM; have := hst.lK; have := hst.lO; have := hst.lF; have := H.most; omega)) rfl (ze rfl rfl (zd rfl ⟨rfl, (ze rfl rfl (zM el25 rfl rfl (by omega) (by omega) ⟨rfl, ?_⟩))⟩))))))⟩)
      obtain ⟨_, _, cm2, e2, hgm2, hbm3, hcm2⟩ := (hst.sM.keptM H hst.gR).atS (i := (j : Int)) (k := j) rfl hjm
      cases e2
      refine yI rfl rfl sh62 rfl hgm2 (by have := hbm3; have := H.most; omega) hcm2 (dr_new rfl rfl H zf162 (by omega) (fun b16 s5 H => ?_))
      refine zU rfl rfl (zo rfl fc82 rfl ?_)
      have hlb := hst.lB
      have hle := H.le
      have hl0 := H.lt0
      obtain ⟨_, s9, hr, rfl, Hc⟩ := orest_ok (x := (may.getD j default)) hI (Fine.narrow (X := [bb, b16]) H.fine (by intro p hp; simp only [List.mem_cons, List.not_mem_nil, or_false] at hp; rcases hp with hp | hp; { rw [hp]; exact Nat.lt_of_lt_of_le hlb hle }; { rw [hp]; exact hl0 })) (by have hmo := H.most; (try simp only at hmo); show _ + _ ≤ _; (try simp only); omega)
      refine ⟨_, _, hr, ?_⟩
      clear hr
      have H := x8 H Hc
      clear Hc hlb hle hl0
      rw [show zB (may.getD j default).w (may.getD j default).p = zB S (may.getD j default).p by rw [hjw]]
      refine zU rfl rfl (zo rfl fc134 rfl ?_)
      have hd := H.dist
      simp only [List.pairwise_cons, List.mem_cons, List.not_mem_nil, or_false, forall_eq_or_imp, forall_eq, false_imp_iff, implies_true] at hd
      have hltb := H.lt0
      have hle := H.le
      obtain ⟨_, s9, hr, K3, sp2, sm2, rfl, Hc, hK3, mK3, X3, eK3, bK3⟩ := ih (zB S (may.getD j default).p) (by omega) (by omega) (by omega) _ K2 (Fine.narrow (X := [b16]) H.fine (by intro p hp; rw [List.mem_singleton] at hp; rw [hp]; exact hltb)) (BdSt.narrow (X := [b16]) (hst.later H (by simp)) (by simp only [List.mem_cons, List.not_mem_nil, or_false]; omega)) hK2 (by have hmo := H.most; (try simp only at hmo); show _ + _ ≤ _; (try simp only); omega)
      refine ⟨_, _, hr, ?_⟩
      clear hr
      have H := HL.callW (A := [_]) (L := [_, _, _, _]) (HL.mid (A := [_]) (B := [_]) (C := [_, _, _]) H) (HL.wider H.fine (Nat.le_refl _) (fun _ h => List.mem_append_right _ h) Hc) (by intro b hb; rw [List.mem_singleton] at hb; subst hb; exact ⟨_, List.mem_singleton.mpr rfl⟩) (by intro p hp; rw [List.mem_singleton] at hp; subst hp; simp)
      clear Hc hd hltb hle
      simp only [List.cons_append, List.nil_append] at H
      have rK3 := (hK3.1 _ mK3).range (by omega) (by omega)
      simp only at rK3
      cases hd2 : decide (0 ≤ sm2)
      · refine ze rfl rfl (yA rfl ⟨rfl, (ze rfl rfl (zH rfl rfl ⟨rfl, (ze rfl rfl (zH rfl rfl ⟨rfl, (y5 (vs := [.int _ _, .int _ _]) (fr := []) H rfl rfl xK rfl rfl rfl rfl rfl rfl (by have hd := H.dist; simp only [List.pairwise_cons, List.mem_cons, List.not_mem_nil, or_false, forall_eq_or_imp, forall_eq, false_imp_iff, implies_true] at hd ⊢; try omega) (by omega) (fun s6 H => ?_))⟩))⟩))⟩)
        refine ze rfl rfl (zw rfl ⟨rfl, (z2 (yC [⟨0, 0, .light, [3, 5, 8]⟩, ⟨1, 1, .light, [3, 5, 8]⟩, ⟨2, 0, .light, [1, 5, 8]⟩, ⟨3, 4, .light, [1, 5, 8]⟩, ⟨4, 15, .light, [5, 8]⟩, ⟨5, 0, .light, [1, 3]⟩, ⟨6, 0, .light, [1, 3, 5]⟩, ⟨7, 96, .light, [1, 3]⟩, ⟨8, 224, .light, [1, 3]⟩, ⟨9, 480, .whole, [1, 3]⟩, ⟨10, 1023, .light, []⟩, ⟨11, 2047, .light, []⟩] (by kernel_rfl) (by kernel_rfl) (ze rfl rfl (zf xj rfl ⟨rfl, (zy rfl rfl sh3 rfl H.own2 (by exact H.lim2 (by omega)) rfl (ze rfl rfl (zf xj rfl ⟨rfl, (zy rfl rfl sh3 rfl H.own1 (by exact H.lim1 (by omega)) rfl (ze rfl rfl (zT rfl rfl (by unfold zQ; omega) ⟨rfl, (zy rfl rfl sh25 rfl (by exact oldM H hst.gR hst.lM hst.gM) (by (have := hst.lB; have := hst.lM; have := hst.lK; have := hst.lO; have := hst.lF; have := H.most; omega)) rfl (ze rfl rfl (zd rfl ⟨rfl, (ze rfl rfl (zM el25 rfl rfl (by omega) (by omega) ⟨rfl, ?_⟩))⟩)))⟩)))⟩)))⟩))))⟩)
        obtain ⟨_, _, cm2, e2, hgm2, hbm3, hcm2⟩ := (hst.sM.keptM H hst.gR).atS (i := (j : Int)) (k := j) rfl hjm
        cases e2
        refine yI rfl rfl sh62 rfl hgm2 (by have := hbm3; have := H.most; omega) hcm2 (zU rfl rfl (zo rfl fc136 rfl ?_))
        have hl1 := H.lt1
        have hl2 := H.lt2
        obtain ⟨_, s9, hr, c, rfl, hc0, hc6, Hc⟩ := cost_ok (x := (may.getD j default)) hI (Fine.narrow (X := [b14, b16]) H.fine (by intro p hp; simp only [List.mem_cons, List.not_mem_nil, or_false] at hp; rcases hp with hp | hp; { rw [hp]; exact hl2 }; { rw [hp]; exact hl1 })) hf1 (by omega) (by rw [hjw]; omega) (by rw [hjw]; omega) (by have hmo := H.most; (try simp only at hmo); show _ + _ ≤ _; (try simp only); omega)
        refine ⟨_, _, hr, ?_⟩
        clear hr
        have H := x8 H Hc
        clear Hc hl1 hl2
        refine ze rfl rfl (zT rfl rfl (by unfold zQ; omega) ⟨rfl, (ze rfl rfl (zm rfl ⟨rfl, (z2 (zc (za rfl (zl rfl (za rfl (zl rfl (zg rfl (za rfl (zZ rfl (za rfl (zl rfl (zg rfl (zg rfl (zg rfl ?_))))))))))))))⟩))⟩)
        refine zg rfl (zg rfl (zg rfl (zg rfl (zg rfl (zg rfl (za rfl (zZ rfl (zb (zx rfl (zA (zP (zi ?_))))))))))))
        refine zv (za rfl (zT rfl rfl (by unfold zQ; omega) (za rfl (zd rfl (zb (zN ?_))))))
        have H := pick3 H
        have hlt3 : ∀ e ∈ X1 ++ (X2 ++ X3), e.1 < S := by
          intro e he
          rcases List.mem_append.mp he with he | he
          · exact hX1 e he
          · rcases List.mem_append.mp he with he | he
            · have := bK2 e he; omega
            · have := bK3 e he; omega
        have heq : K3 = K ++ (X1 ++ (X2 ++ X3)) := by rw [eK3, eK2, hK1e]; simp only [List.append_assoc]
        have hbest3 : BestOK may K3 S sp sm := by
          rw [eK3, eK2]
          exact hbest.mono.mono
        exact ⟨l.length - (i + 1), by omega, _, i + 1, K3, X1 ++ (X2 ++ X3), sp, sm, _, yd ⟨rfl, rfl, rfl, rfl, rfl, rfl, rfl, rfl, rfl, rfl, rfl, trivial⟩, H, by omega, hK3, heq, hlt3, hbest3, by omega, rfl⟩
      refine ze rfl rfl (yA rfl ⟨rfl, (ze rfl rfl (zH rfl rfl ⟨rfl, (ze rfl rfl (zH rfl rfl ⟨rfl, (y5 (vs := [.int _ _, .int _ _]) (fr := []) H rfl rfl xK rfl rfl rfl rfl rfl rfl (by have hd := H.dist; simp only [List.pairwise_cons, List.mem_cons, List.not_mem_nil, or_false, forall_eq_or_imp, forall_eq, false_imp_iff, implies_true] at hd ⊢; try omega) (by omega) (fun s7 H => ?_))⟩))⟩))⟩)
      refine ze rfl rfl (zw rfl ⟨rfl, (z2 (yC [⟨0, 0, .light, [3, 5, 8]⟩, ⟨1, 1, .light, [3, 5, 8]⟩, ⟨2, 0, .light, [1, 5, 8]⟩, ⟨3, 4, .light, [1, 5, 8]⟩, ⟨4, 15, .light, [5, 8]⟩, ⟨5, 0, .light, [1, 3]⟩, ⟨6, 0, .light, [1, 3, 5]⟩, ⟨7, 96, .light, [1, 3]⟩, ⟨8, 224, .light, [1, 3]⟩, ⟨9, 480, .whole, [1, 3]⟩, ⟨10, 1023, .light, []⟩, ⟨11, 2047, .light, []⟩] (by kernel_rfl) (by kernel_rfl) (ze rfl rfl (zf xj rfl ⟨rfl, (zy rfl rfl sh3 rfl H.own2 (by exact H.lim2 (by omega)) rfl (ze rfl rfl (zf xj rfl ⟨rfl, (zy rfl rfl sh3 rfl H.own1 (by exact H.lim1 (by omega)) rfl (ze rfl rfl (zT rfl rfl (by unfold zQ; omega) ⟨rfl, (zy rfl rfl sh25 rfl (by exact oldM H hst.gR hst.lM hst.gM) (by (have := hst.lB; have := hst.lM; have := hst.lK; have := hst.lO; have := hst.lF; have := H.most; omega)) rfl (ze rfl rfl (zd rfl ⟨rfl, (ze rfl rfl (zM el25 rfl rfl (by omega) (by omega) ⟨rfl, ?_⟩))⟩)))⟩)))⟩)))⟩))))⟩)
      obtain ⟨_, _, cm2, e2, hgm2, hbm3, hcm2⟩ := (hst.sM.keptM H hst.gR).atS (i := (j : Int)) (k := j) rfl hjm
      cases e2
      refine yI rfl rfl sh62 rfl hgm2 (by have := hbm3; have := H.most; omega) hcm2 (zU rfl rfl (zo rfl fc136 rfl ?_))
      have hl1 := H.lt1
      have hl2 := H.lt2
      obtain ⟨_, s9, hr, c, rfl, hc0, hc6, Hc⟩ := cost_ok (x := (may.getD j default)) hI (Fine.narrow (X := [b14, b16]) H.fine (by intro p hp; simp only [List.mem_cons, List.not_mem_nil, or_false] at hp; rcases hp with hp | hp; { rw [hp]; exact hl2 }; { rw [hp]; exact hl1 })) hf1 (by omega) (by rw [hjw]; omega) (by rw [hjw]; omega) (by have hmo := H.most; (try simp only at hmo); show _ + _ ≤ _; (try simp only); omega)
      refine ⟨_, _, hr, ?_⟩
      clear hr
      have H := x8 H Hc
      clear Hc hl1 hl2
      refine ze rfl rfl (zT rfl rfl (by unfold zQ; omega) ⟨rfl, (ze rfl rfl (zm rfl ⟨rfl, (z2 (zc (za rfl (zl rfl (za rfl (zl rfl (zg rfl (za rfl (zZ rfl (za rfl (zl rfl (zg rfl (zg rfl (zg rfl ?_))))))))))))))⟩))⟩)
      refine zg rfl (zg rfl (zg rfl (zg rfl (zg rfl (zg rfl (za rfl (zZ rfl (zb (zx rfl (zA (zP (zi ?_))))))))))))
      refine zv (za rfl (zT rfl rfl (by unfold zQ; omega) (za rfl (zd rfl (zb (zN ?_))))))
      have H := pick3 H
      have hlt3 : ∀ e ∈ X1 ++ (X2 ++ X3), e.1 < S := by
        intro e he
        rcases List.mem_append.mp he with he | he
        · exact hX1 e he
        · rcases List.mem_append.mp he with he | he
          · have := bK2 e he; omega
          · have := bK3 e he; omega
      have heq : K3 = K ++ (X1 ++ (X2 ++ X3)) := by rw [eK3, eK2, hK1e]; simp only [List.append_assoc]
      have hbest3 : BestOK may K3 S sp sm := by
        rw [eK3, eK2]
        exact hbest.mono.mono
      exact ⟨l.length - (i + 1), by omega, _, i + 1, K3, X1 ++ (X2 ++ X3), sp, sm, _, yd ⟨rfl, rfl, rfl, rfl, rfl, rfl, rfl, rfl, rfl, rfl, rfl, trivial⟩, H, by omega, hK3, heq, hlt3, hbest3, by omega, rfl⟩
    refine ze rfl rfl (yA rfl ⟨rfl, (ze rfl rfl (zH rfl rfl ⟨rfl, (ze rfl rfl (zH rfl rfl ⟨rfl, (y5 (vs := [.int _ _, .int _ _]) (fr := []) H rfl rfl xK rfl rfl rfl rfl rfl rfl (by have hd := H.dist; simp only [List.pairwise_cons, List.mem_cons, List.not_mem_nil, or_false, forall_eq_or_imp, forall_eq, false_imp_iff, implies_true] at hd ⊢; try omega) (by omega) (fun s8 H => ?_))⟩))⟩))⟩)
    refine ze rfl rfl (zw rfl ⟨rfl, (z2 (yC [⟨0, 0, .light, [1, 4, 10]⟩, ⟨1, 0, .light, [0, 10]⟩, ⟨2, 0, .light, [0, 1, 10]⟩, ⟨3, 6, .light, [0, 10]⟩, ⟨4, 14, .light, [0, 10]⟩, ⟨10, 0, .new, [0, 1, 4]⟩, ⟨5, 30, .whole, [0, 10]⟩, ⟨6, 63, .whole, [10]⟩, ⟨7, 127, .light, [10]⟩, ⟨8, 255, .light, [10]⟩, ⟨9, 255, .light, [10]⟩, ⟨11, 1535, .whole, []⟩, ⟨12, 4095, .light, []⟩] (by kernel_rfl) (by kernel_rfl) (zy rfl rfl sh159 rfl (by exact oldM H hst.gR hst.lB hst.gB) (by (have := hst.lB; have := hst.lM; have := hst.lK; have := hst.lO; have := hst.lF; have := H.most; omega)) rfl (zy rfl rfl sh25 rfl (by exact oldM H hst.gR hst.lM hst.gM) (by (have := hst.lB; have := hst.lM; have := hst.lK; have := hst.lO; have := hst.lF; have := H.most; omega)) rfl (ze rfl rfl (zd rfl ⟨rfl, (ze rfl rfl (zM el25 rfl rfl (by omega) (by omega) ⟨rfl, ?_⟩))⟩))))))⟩)
    obtain ⟨_, _, cm2, e2, hgm2, hbm3, hcm2⟩ := (hst.sM.keptM H hst.gR).atS (i := (j : Int)) (k := j) rfl hjm
    cases e2
    refine yI rfl rfl sh62 rfl hgm2 (by have := hbm3; have := H.most; omega) hcm2 (dr_new rfl rfl H zf162 (by omega) (fun b16 s9 H => ?_))
    refine zU rfl rfl (zo rfl fc82 rfl ?_)
    have hlb := hst.lB
    have hle := H.le
    have hl0 := H.lt0
    obtain ⟨_, s9, hr, rfl, Hc⟩ := orest_ok (x := (may.getD j default)) hI (Fine.narrow (X := [bb, b16]) H.fine (by intro p hp; simp only [List.mem_cons, List.not_mem_nil, or_false] at hp; rcases hp with hp | hp; { rw [hp]; exact Nat.lt_of_lt_of_le hlb hle }; { rw [hp]; exact hl0 })) (by have hmo := H.most; (try simp only at hmo); show _ + _ ≤ _; (try simp only); omega)
    refine ⟨_, _, hr, ?_⟩
    clear hr
    have H := x8 H Hc
    clear Hc hlb hle hl0
    rw [show zB (may.getD j default).w (may.getD j default).p = zB S (may.getD j default).p by rw [hjw]]
    refine zU rfl rfl (zo rfl fc134 rfl ?_)
    have hd := H.dist
    simp only [List.pairwise_cons, List.mem_cons, List.not_mem_nil, or_false, forall_eq_or_imp, forall_eq, false_imp_iff, implies_true] at hd
    have hltb := H.lt0
    have hle := H.le
    obtain ⟨_, s9, hr, K3, sp2, sm2, rfl, Hc, hK3, mK3, X3, eK3, bK3⟩ := ih (zB S (may.getD j default).p) (by omega) (by omega) (by omega) _ K2 (Fine.narrow (X := [b16]) H.fine (by intro p hp; rw [List.mem_singleton] at hp; rw [hp]; exact hltb)) (BdSt.narrow (X := [b16]) (hst.later H (by simp)) (by simp only [List.mem_cons, List.not_mem_nil, or_false]; omega)) hK2 (by have hmo := H.most; (try simp only at hmo); show _ + _ ≤ _; (try simp only); omega)
    refine ⟨_, _, hr, ?_⟩
    clear hr
    have H := HL.callW (A := [_]) (L := [_, _, _, _]) (HL.mid (A := [_]) (B := [_]) (C := [_, _, _]) H) (HL.wider H.fine (Nat.le_refl _) (fun _ h => List.mem_append_right _ h) Hc) (by intro b hb; rw [List.mem_singleton] at hb; subst hb; exact ⟨_, List.mem_singleton.mpr rfl⟩) (by intro p hp; rw [List.mem_singleton] at hp; subst hp; simp)
    clear Hc hd hltb hle
    simp only [List.cons_append, List.nil_append] at H
    have rK3 := (hK3.1 _ mK3).range (by omega) (by omega)
    simp only at rK3
    cases hd2 : decide (0 ≤ sm2)
    · refine ze rfl rfl (yA rfl ⟨rfl, (ze rfl rfl (zH rfl rfl ⟨rfl, (ze rfl rfl (zH rfl rfl ⟨rfl, (y5 (vs := [.int _ _, .int _ _]) (fr := []) H rfl rfl xK rfl rfl rfl rfl rfl rfl (by have hd := H.dist; simp only [List.pairwise_cons, List.mem_cons, List.not_mem_nil, or_false, forall_eq_or_imp, forall_eq, false_imp_iff, implies_true] at hd ⊢; try omega) (by omega) (fun s10 H => ?_))⟩))⟩))⟩)
      refine ze rfl rfl (zw rfl ⟨rfl, (z2 (yC [⟨0, 0, .light, [3, 5, 8]⟩, ⟨1, 1, .light, [3, 5, 8]⟩, ⟨2, 0, .light, [1, 5, 8]⟩, ⟨3, 4, .light, [1, 5, 8]⟩, ⟨4, 15, .light, [5, 8]⟩, ⟨5, 0, .light, [1, 3]⟩, ⟨6, 0, .light, [1, 3, 5]⟩, ⟨7, 96, .light, [1, 3]⟩, ⟨8, 224, .light, [1, 3]⟩, ⟨9, 480, .whole, [1, 3]⟩, ⟨10, 1023, .light, []⟩, ⟨11, 2047, .light, []⟩] (by kernel_rfl) (by kernel_rfl) (ze rfl rfl (zf xj rfl ⟨rfl, (zy rfl rfl sh3 rfl H.own2 (by exact H.lim2 (by omega)) rfl (ze rfl rfl (zf xj rfl ⟨rfl, (zy rfl rfl sh3 rfl H.own1 (by exact H.lim1 (by omega)) rfl (ze rfl rfl (zT rfl rfl (by unfold zQ; omega) ⟨rfl, (zy rfl rfl sh25 rfl (by exact oldM H hst.gR hst.lM hst.gM) (by (have := hst.lB; have := hst.lM; have := hst.lK; have := hst.lO; have := hst.lF; have := H.most; omega)) rfl (ze rfl rfl (zd rfl ⟨rfl, (ze rfl rfl (zM el25 rfl rfl (by omega) (by omega) ⟨rfl, ?_⟩))⟩)))⟩)))⟩)))⟩))))⟩)
      obtain ⟨_, _, cm2, e2, hgm2, hbm3, hcm2⟩ := (hst.sM.keptM H hst.gR).atS (i := (j : Int)) (k := j) rfl hjm
      cases e2
      refine yI rfl rfl sh62 rfl hgm2 (by have := hbm3; have := H.most; omega) hcm2 (zU rfl rfl (zo rfl fc136 rfl ?_))
      have hl1 := H.lt1
      have hl2 := H.lt2
      obtain ⟨_, s9, hr, c, rfl, hc0, hc6, Hc⟩ := cost_ok (x := (may.getD j default)) hI (Fine.narrow (X := [b14, b16]) H.fine (by intro p hp; simp only [List.mem_cons, List.not_mem_nil, or_false] at hp; rcases hp with hp | hp; { rw [hp]; exact hl2 }; { rw [hp]; exact hl1 })) hf1 (by omega) (by rw [hjw]; omega) (by rw [hjw]; omega) (by have hmo := H.most; (try simp only at hmo); show _ + _ ≤ _; (try simp only); omega)
      refine ⟨_, _, hr, ?_⟩
      clear hr
      have H := x8 H Hc
      clear Hc hl1 hl2
      refine ze rfl rfl (zT rfl rfl (by unfold zQ; omega) ⟨rfl, (ze rfl rfl (zm rfl ⟨rfl, (z2 (zc (za rfl (zl rfl (za rfl (zl rfl (za rfl (zl rfl (za rfl (zK rfl rfl (za rfl (zl rfl (zg rfl (zg rfl (zg rfl ?_)))))))))))))))⟩))⟩)
      refine zg rfl (zg rfl (zg rfl (zg rfl (zg rfl (zg rfl (za rfl (zZ rfl (zb (zx rfl (zA (zP (zi ?_))))))))))))
      refine zv (za rfl (zT rfl rfl (by unfold zQ; omega) (za rfl (zd rfl (zb (zN ?_))))))
      have H := pick3 H
      have hlt3 : ∀ e ∈ X1 ++ (X2 ++ X3), e.1 < S := by
        intro e he
        rcases List.mem_append.mp he with he | he
        · exact hX1 e he
        · rcases List.mem_append.mp he with he | he
          · have := bK2 e he; omega
          · have := bK3 e he; omega
      have heq : K3 = K ++ (X1 ++ (X2 ++ X3)) := by rw [eK3, eK2, hK1e]; simp only [List.append_assoc]
      have hbest3 : BestOK may K3 S sp sm := by
        rw [eK3, eK2]
        exact hbest.mono.mono
      exact ⟨l.length - (i + 1), by omega, _, i + 1, K3, X1 ++ (X2 ++ X3), sp, sm, _, yd ⟨rfl, rfl, rfl, rfl, rfl, rfl, rfl, rfl, rfl, rfl, rfl, trivial⟩, H, by omega, hK3, heq, hlt3, hbest3, by omega, rfl⟩
    refine ze rfl rfl (yA rfl ⟨rfl, (ze rfl rfl (zH rfl rfl ⟨rfl, (ze rfl rfl (zH rfl rfl ⟨rfl, (y5 (vs := [.int _ _, .int _ _]) (fr := []) H rfl rfl xK rfl rfl rfl rfl rfl rfl (by have hd := H.dist; simp only [List.pairwise_cons, List.mem_cons, List.not_mem_nil, or_false, forall_eq_or_imp, forall_eq, false_imp_iff, implies_true] at hd ⊢; try omega) (by omega) (fun s11 H => ?_))⟩))⟩))⟩)
    refine ze rfl rfl (zw rfl ⟨rfl, (z2 (yC [⟨0, 0, .light, [3, 5, 8]⟩, ⟨1, 1, .light, [3, 5, 8]⟩, ⟨2, 0, .light, [1, 5, 8]⟩, ⟨3, 4, .light, [1, 5, 8]⟩, ⟨4, 15, .light, [5, 8]⟩, ⟨5, 0, .light, [1, 3]⟩, ⟨6, 0, .light, [1, 3, 5]⟩, ⟨7, 96, .light, [1, 3]⟩, ⟨8, 224, .light, [1, 3]⟩, ⟨9, 480, .whole, [1, 3]⟩, ⟨10, 1023, .light, []⟩, ⟨11, 2047, .light, []⟩] (by kernel_rfl) (by kernel_rfl) (ze rfl rfl (zf xj rfl ⟨rfl, (zy rfl rfl sh3 rfl H.own2 (by exact H.lim2 (by omega)) rfl (ze rfl rfl (zf xj rfl ⟨rfl, (zy rfl rfl sh3 rfl H.own1 (by exact H.lim1 (by omega)) rfl (ze rfl rfl (zT rfl rfl (by unfold zQ; omega) ⟨rfl, (zy rfl rfl sh25 rfl (by exact oldM H hst.gR hst.lM hst.gM) (by (have := hst.lB; have := hst.lM; have := hst.lK; have := hst.lO; have := hst.lF; have := H.most; omega)) rfl (ze rfl rfl (zd rfl ⟨rfl, (ze rfl rfl (zM el25 rfl rfl (by omega) (by omega) ⟨rfl, ?_⟩))⟩)))⟩)))⟩)))⟩))))⟩)
    obtain ⟨_, _, cm2, e2, hgm2, hbm3, hcm2⟩ := (hst.sM.keptM H hst.gR).atS (i := (j : Int)) (k := j) rfl hjm
    cases e2
    refine yI rfl rfl sh62 rfl hgm2 (by have := hbm3; have := H.most; omega) hcm2 (zU rfl rfl (zo rfl fc136 rfl ?_))
    have hl1 := H.lt1
    have hl2 := H.lt2
    obtain ⟨_, s9, hr, c, rfl, hc0, hc6, Hc⟩ := cost_ok (x := (may.getD j default)) hI (Fine.narrow (X := [b14, b16]) H.fine (by intro p hp; simp only [List.mem_cons, List.not_mem_nil, or_false] at hp; rcases hp with hp | hp; { rw [hp]; exact hl2 }; { rw [hp]; exact hl1 })) hf1 (by omega) (by rw [hjw]; omega) (by rw [hjw]; omega) (by have hmo := H.most; (try simp only at hmo); show _ + _ ≤ _; (try simp only); omega)
    refine ⟨_, _, hr, ?_⟩
    clear hr
    have H := x8 H Hc
    clear Hc hl1 hl2
    refine ze rfl rfl (zT rfl rfl (by unfold zQ; omega) ⟨rfl, (ze rfl rfl (zm rfl ⟨rfl, (z2 (zc (za rfl (zl rfl (za rfl (zl rfl (za rfl (zl rfl (za rfl (zK rfl rfl (za rfl (zl rfl (za rfl (zf xj rfl (za rfl (zj sh3 rfl H.own3 rfl (za rfl (yq rfl rfl (fun h => ?_) (fun h => ?_)))))))))))))))))))⟩))⟩)
    · refine za rfl (zl rfl (zg rfl (zg rfl (zg rfl (zg rfl (za rfl (yi rfl (za rfl (zK rfl rfl (zb (zE rfl (zv (za rfl (zd rfl (za rfl (zd rfl ?_))))))))))))))))
      refine za rfl (yN (c := [.int _ _, .int _ _]) bf162 rfl (za rfl (op_store3 (vs := [.int _ _, .int _ _]) H xK rfl rfl rfl rfl rfl (by omega) (fun s12 H => ?_))))
      refine zb (zP (zi (zv (za rfl (zT rfl rfl (by unfold zQ; omega) (za rfl (zd rfl (zb (zN ?_)))))))))
      have H := pick3 H
      have hlt3 : ∀ e ∈ X1 ++ (X2 ++ X3), e.1 < S := by
        intro e he
        rcases List.mem_append.mp he with he | he
        · exact hX1 e he
        · rcases List.mem_append.mp he with he | he
          · have := bK2 e he; omega
          · have := bK3 e he; omega
      have heq : K3 = K ++ (X1 ++ (X2 ++ X3)) := by rw [eK3, eK2, hK1e]; simp only [List.append_assoc]
      simp only [decide_eq_true_eq] at hd1 hd2
      have hbest3 : BestOK may K3 S (j : Int) (sm1 + sm2 + c) := .inr (.inr ⟨j, hjm, rfl, by omega, by omega, hjw, ⟨_, _, by rw [eK3]; exact List.mem_append_left _ mK2, hd1⟩, ⟨_, _, mK3, hd2⟩⟩)
      exact ⟨l.length - (i + 1), by omega, _, i + 1, K3, X1 ++ (X2 ++ X3), (j : Int), (sm1 + sm2 + c), _, yd ⟨rfl, rfl, rfl, rfl, rfl, rfl, rfl, rfl, rfl, rfl, rfl, trivial⟩, H, by omega, hK3, heq, hlt3, hbest3, by omega, rfl⟩
    refine za rfl (zl rfl (za rfl (zd rfl (za rfl (zf xj rfl (za rfl (zj sh3 rfl H.own3 rfl (za rfl (yq rfl rfl (fun h => ?_) (fun h => ?_))))))))))
    · refine za rfl (zW rfl rfl (za rfl (zK rfl rfl (zb (zE rfl (zv (za rfl (zd rfl (za rfl (zd rfl (za rfl (yN (c := [.int _ _, .int _ _]) bf162 rfl (za rfl (op_store3 (vs := [.int _ _, .int _ _]) H xK rfl rfl rfl rfl rfl (by omega) (fun s13 H => ?_)))))))))))))))
      refine zb (zP (zi (zv (za rfl (zT rfl rfl (by unfold zQ; omega) (za rfl (zd rfl (zb (zN ?_)))))))))
      have H := pick3 H
      have hlt3 : ∀ e ∈ X1 ++ (X2 ++ X3), e.1 < S := by
        intro e he
        rcases List.mem_append.mp he with he | he
        · exact hX1 e he
        · rcases List.mem_append.mp he with he | he
          · have := bK2 e he; omega
          · have := bK3 e he; omega
      have heq : K3 = K ++ (X1 ++ (X2 ++ X3)) := by rw [eK3, eK2, hK1e]; simp only [List.append_assoc]
      simp only [decide_eq_true_eq] at hd1 hd2
      have hbest3 : BestOK may K3 S (j : Int) (sm1 + sm2 + c) := .inr (.inr ⟨j, hjm, rfl, by omega, by omega, hjw, ⟨_, _, by rw [eK3]; exact List.mem_append_left _ mK2, hd1⟩, ⟨_, _, mK3, hd2⟩⟩)
      exact ⟨l.length - (i + 1), by omega, _, i + 1, K3, X1 ++ (X2 ++ X3), (j : Int), (sm1 + sm2 + c), _, yd ⟨rfl, rfl, rfl, rfl, rfl, rfl, rfl, rfl, rfl, rfl, rfl, trivial⟩, H, by omega, hK3, heq, hlt3, hbest3, by omega, rfl⟩
    refine za rfl (zW rfl rfl (za rfl (zK rfl rfl (zb (zx rfl (zA (zP (zi (zv (za rfl (zT rfl rfl (by unfold zQ; omega) (za rfl (zd rfl (zb (zN ?_)))))))))))))))
    have H := pick3 H
    have hlt3 : ∀ e ∈ X1 ++ (X2 ++ X3), e.1 < S := by
      intro e he
      rcases List.mem_append.mp he with he | he
      · exact hX1 e he
      · rcases List.mem_append.mp he with he | he
        · have := bK2 e he; omega
        · have := bK3 e he; omega
    have heq : K3 = K ++ (X1 ++ (X2 ++ X3)) := by rw [eK3, eK2, hK1e]; simp only [List.append_assoc]
    have hbest3 : BestOK may K3 S sp sm := by
      rw [eK3, eK2]
      exact hbest.mono.mono
    exact ⟨l.length - (i + 1), by omega, _, i + 1, K3, X1 ++ (X2 ++ X3), sp, sm, _, yd ⟨rfl, rfl, rfl, rfl, rfl, rfl, rfl, rfl, rfl, rfl, rfl, trivial⟩, H, by omega, hK3, heq, hlt3, hbest3, by omega, rfl⟩
  refine zb (zq (zx rfl (yn (zX (yh (ye (zi ?_)))))))
  have hne1 : ∀ e ∈ K1, e.1 ≠ S := by
    intro e he
    rw [hK1e] at he
    rcases List.mem_append.mp he with he | he
    · exact hnf e he
    · have := hX1 e he; omega
  have hT0 : i * T ≤ l.length * T := Nat.mul_le_mul_right _ hi
  have rS := hbest.range hS hS1
  refine zc (za rfl (zj sh221 rfl (by exact oldM H hst.gR hst.lK hst.gK) rfl (za rfl (zd rfl (za rfl (z8 sh162 rfl H.own0 rfl (za rfl (op_updV [_, _] (y := bV sp sm) H un221 un23 rfl rfl rfl (by omega) (fun s70 H => ?_)))))))))
  simp only [List.cons_append, List.nil_append] at H
  rw [knM_put hne1] at H
  refine zb (yC [⟨0, 0, .light, [2]⟩, ⟨1, 0, .light, [0]⟩, ⟨2, 2, .light, [0]⟩, ⟨3, 6, .light, [0]⟩, ⟨4, 1, .whole, [2]⟩, ⟨5, 31, .light, []⟩] (by kernel_rfl) (by kernel_rfl) (yI rfl rfl sh162 rfl H.own0 (by exact H.lim0 (by omega)) rfl (ze rfl rfl (zf xj rfl ⟨rfl, (zy rfl rfl sh3 rfl H.own0 (by exact H.lim0 (by omega)) rfl (ze rfl rfl (qd rfl rfl (fun h => ⟨rfl, ?_⟩) (fun h => ⟨rfl, ?_⟩))))⟩))))
  · refine y5 (vs := [.int _ _, .int _ _]) (fr := [_]) H rfl rfl xK rfl rfl rfl rfl rfl rfl (by have hd := H.dist; simp only [List.pairwise_cons, List.mem_cons, List.not_mem_nil, or_false, forall_eq_or_imp, forall_eq, false_imp_iff, implies_true] at hd ⊢; try omega) (by omega) (fun s14 H => ?_)
    refine ze rfl rfl (zw rfl ⟨rfl, (z2 (zF (zt (end_ct sh162 rfl H.own1 rfl rfl (⟨K1 ++ [(S, sp, sm)], sp, sm, by first | (rw [decide_eq_true h]; rfl) | (rw [decide_eq_false h]; rfl), (H.drop0.drop0).up (by omega), hK1.add hbest hne1, by simp, X1 ++ [(S, sp, sm)], by rw [hK1e, List.append_assoc], ?_⟩)))))⟩)
    intro e he
    rcases List.mem_append.mp he with he | he
    · have := hX1 e he; omega
    · rw [List.mem_singleton] at he; subst he; exact Int.le_refl _
  refine y5 (vs := [.int _ _, .int _ _]) (fr := [_]) H rfl rfl xK rfl rfl rfl rfl rfl rfl (by have hd := H.dist; simp only [List.pairwise_cons, List.mem_cons, List.not_mem_nil, or_false, forall_eq_or_imp, forall_eq, false_imp_iff, implies_true] at hd ⊢; try omega) (by omega) (fun s15 H => ?_)
  refine ze rfl rfl (zw rfl ⟨rfl, (z2 (zF (zt (end_ct sh162 rfl H.own1 rfl rfl (⟨K1 ++ [(S, sp, sm)], sp, sm, by first | (rw [decide_eq_true h]; rfl) | (rw [decide_eq_false h]; rfl), (H.drop0.drop0).up (by omega), hK1.add hbest hne1, by simp, X1 ++ [(S, sp, sm)], by rw [hK1e, List.append_assoc], ?_⟩)))))⟩)
  intro e he
  rcases List.mem_append.mp he with he | he
  · have := hX1 e he; omega
  · rw [List.mem_singleton] at he; subst he; exact Int.le_refl _
set_option maxHeartbeats 4000000 in
set_option maxRecDepth 10000 in
theorem build_step {I : zJ} (hI : Plain I) {kb km fb fm ob om bb mb : Nat} {vm : Value} {may : List Sp} {Ef : yV} {E : OfE} {m f : Nat} (hm : xh may) (hml : may.length ≤ 100) (hm100 : m ≤ 100) (hok : OfOK may m E) (hbm : BoolM Ef) (ih : BdC I kb km fb fm ob om bb mb vm may Ef E m f) : BdC I kb km fb fm ob om bb mb vm may Ef E m (f + 1) := by
  intro S hS hS1 hSf s K hf hst hK hroom
  have H := hst.hl hf
  have hpS := pc_one (w := S.toNat) (by omega) (by omega)
  have hbt : 20 ≤ bt m (pcN S.toNat) := by
    rw [show pcN S.toNat = (pcN S.toNat - 1) + 1 by omega, bt]
    omega
  have hsz := size_pc (s := S) (by omega) (by omega)
  refine zY 6 (hI 134 (by decide) (by decide) (by decide) (by decide)) Tryz.func134 rfl fb134 rfl ?_
  refine zc (za rfl (zC H zf162 (by omega) (fun b7 s1 H => ?_)))
  refine za rfl (zk (zb (zq ?_)))
  rcases hfe : yL (knM K) S with _ | v
  · refine zc (za rfl (zj sh221 rfl (by exact oldM H hst.gR hst.lK hst.gK) rfl (za rfl (zd rfl (za rfl (op_lookN1 un221 un23 zv162 rfl rfl H.own1 hfe (za rfl (yA rfl (za rfl (zH rfl rfl (za rfl (zH rfl rfl (za rfl (zC H zf162 (by omega) (fun b9 s2 H => ?_)))))))))))))))
    refine za rfl (zD (vs := [.int _ _, .int _ _]) H xK rfl rfl rfl rfl rfl (by omega) (fun s3 H => ?_))
    refine za rfl (zw rfl (zb (zc (za rfl (zl rfl (zb (zx rfl (zA (zi (zc (za rfl (yN (c := [.int _ _, .int _ _]) bf162 rfl (za rfl (zC H zf162 (by omega) (fun b11 s4 H => ?_)))))))))))))))
    refine za rfl (zD (vs := [.int _ _, .int _ _]) H xK rfl rfl rfl rfl rfl (by omega) (fun s5 H => ?_))
    refine zb (zq ?_)
    cases hfm : firmB Ef S
    · refine zc (za rfl (zj sh164 rfl (by exact oldM H hst.gR hst.lF hst.gF) rfl (za rfl (zd rfl (za rfl (op_lookD (v := .bool false) un164 un23 zv4 rfl rfl ((oldMm H hst.lFm hst.nFm).trans hst.gFm) (by rw [firm_get hbm, hfm]) (za rfl (zl rfl (zg rfl (zg rfl (zg rfl (za rfl (zZ rfl (zb (zx rfl (zA ?_))))))))))))))))
      refine zi (cw_frame [(0, .int .i64 S), (1, ptr kb), (2, ptr fb), (3, ptr ob), (4, ptr bb), (5, ptr mb), (7, ptr b7), (11, ptr b11)] ⟨rfl, rfl, rfl, rfl, rfl, rfl, rfl, rfl, trivial⟩ (fun G => ?_))
      exact build_tail hI hm hml hm100 hok hbm ih hS hS1 hSf hf hst hK (knM_none hfe) hroom (b7 := b7) (b9 := b9) (b11 := b11) (sm0 := -1) (.inl ⟨rfl, rfl⟩) H
    refine zc (za rfl (zj sh164 rfl (by exact oldM H hst.gR hst.lF hst.gF) rfl (za rfl (zd rfl (za rfl (op_lookD (v := .bool true) un164 un23 zv4 rfl rfl ((oldMm H hst.lFm hst.nFm).trans hst.gFm) (by rw [firm_get hbm, hfm]) (za rfl (zl rfl (za rfl (zd rfl (za rfl (zo rfl fc135 rfl ?_))))))))))))
    obtain ⟨_, _, hr, rfl, rfl⟩ := size_ok (x := S) hI
    refine ⟨_, _, hr, ?_⟩
    clear hr
    refine za rfl (xf rfl rfl (fun h => ?_) (fun h => ?_))
    · refine za rfl (zK rfl rfl (zb (zE rfl (zv (za rfl (zf xj rfl (za rfl (zD (vs := [.int _ _]) H sz3 rfl rfl rfl rfl rfl (by omega) (fun s6 H => ?_)))))))))
      refine zb (zi (cw_frame [(0, .int .i64 S), (1, ptr kb), (2, ptr fb), (3, ptr ob), (4, ptr bb), (5, ptr mb), (7, ptr b7), (11, ptr b11)] ⟨rfl, rfl, rfl, rfl, rfl, rfl, rfl, rfl, trivial⟩ (fun G => ?_)))
      exact build_tail hI hm hml hm100 hok hbm ih hS hS1 hSf hf hst hK (knM_none hfe) hroom (b7 := b7) (b9 := b9) (b11 := b11) (sm0 := 0) (.inr (.inl ⟨rfl, rfl, by omega⟩)) H
    refine za rfl (zK rfl rfl (zb (zx rfl (zA (zi (cw_frame [(0, .int .i64 S), (1, ptr kb), (2, ptr fb), (3, ptr ob), (4, ptr bb), (5, ptr mb), (7, ptr b7), (11, ptr b11)] ⟨rfl, rfl, rfl, rfl, rfl, rfl, rfl, rfl, trivial⟩ (fun G => ?_)))))))
    exact build_tail hI hm hml hm100 hok hbm ih hS hS1 hSf hf hst hK (knM_none hfe) hroom (b7 := b7) (b9 := b9) (b11 := b11) (sm0 := -1) (.inl ⟨rfl, rfl⟩) H
  refine zc (za rfl (zj sh221 rfl (by exact oldM H hst.gR hst.lK hst.gK) rfl (za rfl (zd rfl ?_))))
  obtain ⟨sp, sm, hKm, rfl⟩ := knM_find hfe
  refine za rfl (op_lookV1 (v := bV sp sm) un221 un23 rfl rfl H.own1 hfe (za rfl (yA rfl (za rfl (zH rfl rfl (za rfl (zH rfl rfl (za rfl (zC H zf162 (by omega) (fun b9 s7 H => ?_))))))))))
  refine za rfl (zD (vs := [.int _ _, .int _ _]) H xK rfl rfl rfl rfl rfl (by omega) (fun s8 H => ?_))
  refine za rfl (zw rfl (zb (zc (za rfl (zl rfl (zb (zE rfl (yC [⟨0, 0, .light, [2]⟩, ⟨1, 0, .light, [0]⟩, ⟨2, 2, .light, [0]⟩, ⟨3, 6, .light, [0]⟩, ⟨4, 1, .whole, [2]⟩, ⟨5, 31, .light, []⟩] (by kernel_rfl) (by kernel_rfl) (yI rfl rfl sh162 rfl H.own0 (by exact H.lim0 (by omega)) rfl (ze rfl rfl (zf xj rfl ⟨rfl, (zy rfl rfl sh3 rfl H.own0 (by exact H.lim0 (by omega)) rfl (ze rfl rfl (qd rfl rfl (fun h => ⟨rfl, ?_⟩) (fun h => ⟨rfl, ?_⟩))))⟩)))))))))))
  · refine y5 (vs := [.int _ _, .int _ _]) (fr := [_]) H rfl rfl xK rfl rfl rfl rfl rfl rfl (by have hd := H.dist; simp only [List.pairwise_cons, List.mem_cons, List.not_mem_nil, or_false, forall_eq_or_imp, forall_eq, false_imp_iff, implies_true] at hd ⊢; try omega) (by omega) (fun s9 H => ?_)
    refine ze rfl rfl (zw rfl ⟨rfl, (z2 (zF (zV (zt (end_ct sh162 rfl H.own1 rfl rfl (⟨K, sp, sm, by first | (rw [decide_eq_true h]; rfl) | (rw [decide_eq_false h]; rfl), (H.drop0.drop0).up (by omega), hK, hKm, [], by simp, fun e he => by cases he⟩))))))⟩)
  refine y5 (vs := [.int _ _, .int _ _]) (fr := [_]) H rfl rfl xK rfl rfl rfl rfl rfl rfl (by have hd := H.dist; simp only [List.pairwise_cons, List.mem_cons, List.not_mem_nil, or_false, forall_eq_or_imp, forall_eq, false_imp_iff, implies_true] at hd ⊢; try omega) (by omega) (fun s10 H => ?_)
  refine ze rfl rfl (zw rfl ⟨rfl, (z2 (zF (zV (zt (end_ct sh162 rfl H.own1 rfl rfl (⟨K, sp, sm, by first | (rw [decide_eq_true h]; rfl) | (rw [decide_eq_false h]; rfl), (H.drop0.drop0).up (by omega), hK, hKm, [], by simp, fun e he => by cases he⟩))))))⟩)
theorem build_ok {I : zJ} (hI : Plain I) {kb km fb fm ob om bb mb : Nat} {vm : Value} {may : List Sp} {Ef : yV} {E : OfE} {m : Nat} (hm : xh may) (hml : may.length ≤ 100) (hm100 : m ≤ 100) (hok : OfOK may m E) (hbm : BoolM Ef) : ∀ f, BdC I kb km fb fm ob om bb mb vm may Ef E m f
  | 0 => fun S _ _ h => by omega
  | f + 1 => build_step hI hm hml hm100 hok hbm (build_ok hI hm hml hm100 hok hbm f)
end Go.Proofs.YtdejleegamcioaaGreat
