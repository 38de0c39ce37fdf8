/- order.Find: the closure that lists the splits of a tree: its state. -/
/- order.Find: the closure that lists the splits of a tree. -/
/- slices.Sorted(maps.Keys(m)) at a map of z7 to bools: the shelf's contracts put together, at any program. -/
/- slices.Sorted(maps.Keys(m)): the shelf's contracts laid at this program. -/
/- maps.Keys, and slices.Sorted of it, as functions of this machine: they stand for the program's. -/
import Derived.Test.YtdejleegamcioaaGreatP32
import Derived.Shelf.SlIterI.Stops
import Derived.Shelf.SlIterI.Sorted
import Derived.Test.YtdejleegamcioaaGreatP20
import Derived.Shelf.SortM.SortNone
import Derived.Test.YtdejleegamcioaaGreatP21
namespace Go.Proofs.YtdejleegamcioaaGreat
open Go Go.M
inductive TreeN (may : List Sp) : Int → Nat → Prop where
 | leaf {S : Int} (h : pcN S.toNat = 1) : TreeN may S 0
 | node {S : Int} {a b : Nat} {m : Sp} (hm : m ∈ may) (hw : m.w = S) (h1 : TreeN may m.p a) (h2 : TreeN may (zB S m.p) b) : TreeN may S (1 + a + b)
theorem GoodK.find {may : List Sp} {K : KnE} (hK : KOK may K) {S : Int} (h : GoodK K S) : ∃ sp sm, yL (knM K) S = some (bV sp sm) ∧ (S, sp, sm) ∈ K ∧ 0 ≤ sm := by
 obtain ⟨a, b, h1, h2⟩ := h
 cases hf : yL (knM K) S with
 | none => exact absurd rfl (knM_none hf _ h1)
 | some v =>
  obtain ⟨sp, sm, h3, rfl⟩ := knM_find hf
  obtain ⟨rfl, rfl⟩ := hK.one h1 h3
  exact ⟨_, _, rfl, h3, h2⟩
abbrev ADD (cb ob mb ab : Nat) : Value := Value.func (.func 81) ⟨[]⟩ ⟨[ptr cb, ptr ob, ptr mb, ptr ab]⟩
theorem Sl.keptG {s s' : St} {e : TypeId} {sz : Nat} {v : Value} {es : List (List Value)} (h : Sl s e sz v es) (hle : s.next ≤ s'.next) (hk : ∀ b off n c, v = .slice (some ⟨b, off, none⟩) n c → b < s.next → s'.get b = s.get b) : Sl s' e sz v es := by
 cases h with
 | nil c hv hl => exact .nil c hv hl
 | block b off cap c hv hg hb hcap hc => exact .block b off cap c hv (by rw [hk b off _ _ hv hb]; exact hg) (by omega) hcap hc
theorem Sl.ltB {s : St} {e : TypeId} {sz : Nat} {v : Value} {es : List (List Value)} (h : Sl s e sz v es) {a : Addr} {n c : Nat} (hv : v = .slice (some a) n c) : a.block < s.next := by
 cases h with
 | nil c' hv' hl => rw [hv] at hv'; cases hv'
 | block b off cap c' hv' hg hb hcap hc => rw [hv] at hv'; cases hv'; exact hb
def blkV : Option Addr → List Nat
 | some a => [a.block]
 | none => []
structure AdSt (s : St) (kb km fb ob bb mb cb outb mb2 ab : Nat) (am : Option Addr) (cm : Nat) (may : List Sp) (K : KnE) (D : Hp') (so : Slc) (l : List Sp) : Prop where
 gK : s.get kb = some (.cells [.map (some km)] 221)
 lK : kb < s.next
 gR : s.get km = some (yG (knM K))
 lR : km < s.next
 gC : s.get cb = some (.cells [CLO kb fb ob bb mb] 159)
 lC : cb < s.next
 gM : s.get mb2 = some (.cells [.slice am may.length cm] 25)
 lM : mb2 < s.next
 gA : s.get ab = some (.cells [ADD cb outb mb2 ab] 103)
 lA : ab < s.next
 sM : Sl s 62 10 (.slice am may.length cm) (may.map Sp.cells)
 ow : ∀ p ∈ ((outb, MObj.cells [so.v] 25) :: D : Hp'), s.get p.1 = some p.2 ∧ p.1 < s.next ∧ s.may p.1 = true
 ds : ((outb, MObj.cells [so.v] 25) :: D : Hp').Pairwise fun p q => p.1 ≠ q.1
 isO : Own 62 10 D so.v (spsC l) l.length
 dis : ∀ r ∈ [kb, km, cb, mb2, ab] ++ blkV am, r ∉ outb :: xm D
section
variable {s s' : St} {kb km fb ob bb mb cb outb mb2 ab : Nat} {am : Option Addr} {cm : Nat} {may : List Sp} {K : KnE} {D D' : Hp'} {so so' : Slc} {l l' : List Sp} {L : Hp'} {n : Nat}
theorem AdSt.hl (h : AdSt s kb km fb ob bb mb cb outb mb2 ab am cm may K D so l) (hf : Fine s) : HL (outb :: xm D) s s ((outb, .cells [so.v] 25) :: D) 0 :=
 ⟨rfl, rfl, hf.wfb, hf.wfp, Nat.le_refl _, Nat.le_refl _, fun p hp => by
  obtain ⟨h1, h2, h3⟩ := h.ow p hp
  have := List.mem_map_of_mem (f := Prod.fst) hp
  exact ⟨h1, h2, h3, .inr this⟩, h.ds, fun _ _ _ => rfl⟩
theorem AdSt.oldK (h : AdSt s kb km fb ob bb mb cb outb mb2 ab am cm may K D so l) (H : HL (outb :: xm D) s s' L n) : s'.get kb = some (.cells [.map (some km)] 221) := by rw [H.kept _ h.lK (h.dis _ (by simp))]; exact h.gK
theorem AdSt.oldR (h : AdSt s kb km fb ob bb mb cb outb mb2 ab am cm may K D so l) (H : HL (outb :: xm D) s s' L n) : s'.get km = some (yG (knM K)) := by rw [H.kept _ h.lR (h.dis _ (by simp))]; exact h.gR
theorem AdSt.oldC (h : AdSt s kb km fb ob bb mb cb outb mb2 ab am cm may K D so l) (H : HL (outb :: xm D) s s' L n) : s'.get cb = some (.cells [CLO kb fb ob bb mb] 159) := by rw [H.kept _ h.lC (h.dis _ (by simp))]; exact h.gC
theorem AdSt.oldM (h : AdSt s kb km fb ob bb mb cb outb mb2 ab am cm may K D so l) (H : HL (outb :: xm D) s s' L n) : s'.get mb2 = some (.cells [.slice am may.length cm] 25) := by rw [H.kept _ h.lM (h.dis _ (by simp))]; exact h.gM
theorem AdSt.oldA (h : AdSt s kb km fb ob bb mb cb outb mb2 ab am cm may K D so l) (H : HL (outb :: xm D) s s' L n) : s'.get ab = some (.cells [ADD cb outb mb2 ab] 103) := by rw [H.kept _ h.lA (h.dis _ (by simp))]; exact h.gA
theorem AdSt.oldS (h : AdSt s kb km fb ob bb mb cb outb mb2 ab am cm may K D so l) (H : HL (outb :: xm D) s s' L n) : Sl s' 62 10 (.slice am may.length cm) (may.map Sp.cells) := by
 refine h.sM.keptG H.le fun b off n c hv hb => ?_
 have ha : am = some ⟨b, off, none⟩ := by cases hv; rfl
 exact H.kept _ hb (h.dis b (by rw [ha]; simp [blkV]))
theorem AdSt.later (h : AdSt s kb km fb ob bb mb cb outb mb2 ab am cm may K D so l) (H : HL (outb :: xm D) s s' L n) (hL : ((outb, MObj.cells [so'.v] 25) :: D' : Hp').Sublist L) (ho : Own 62 10 D' so'.v (spsC l') l'.length) : AdSt s' kb km fb ob bb mb cb outb mb2 ab am cm may K D' so' l' := by
 have hle := H.le
 have hdis : ∀ r ∈ [kb, km, cb, mb2, ab] ++ blkV am, r ∉ outb :: xm D' := fun r hr hin => by
  have hr0 := h.dis r hr
  have hrlt : r < s.next := by
   rcases List.mem_append.mp hr with hr | hr
   ·simp only [List.mem_cons, List.not_mem_nil, or_false] at hr
    have := h.lK; have := h.lR; have := h.lC; have := h.lM; have := h.lA
    omega
   ·have hs := h.sM
    cases ha : am with
    | none => rw [ha] at hr; simp [blkV] at hr
    | some a =>
     rw [ha] at hr hs
     simp only [blkV, List.mem_singleton] at hr
     rw [hr]
     exact hs.ltB rfl
  have : r ∈ xm ((outb, MObj.cells [so'.v] 25) :: D') := by simpa using hin
  obtain ⟨p, hp, rfl⟩ := List.mem_map.mp this
  have h4 := (H.own p (hL.subset hp)).2.2.2
  rcases h4 with h4 | h4
  ·omega
  ·exact hr0 h4
 exact ⟨h.oldK H, by have := h.lK; omega, h.oldR H, by have := h.lR; omega, h.oldC H, by have := h.lC; omega, h.oldM H, by have := h.lM; omega, h.oldA H, by have := h.lA; omega, h.oldS H,
  fun p hp => by obtain ⟨h1, h2, h3, _⟩ := H.own p (hL.subset hp); exact ⟨h1, h2, h3⟩, H.dist.sublist hL, ho, hdis⟩
end
def AdC (I : zJ) (kb km fb ob bb mb cb outb mb2 ab : Nat) (am : Option Addr) (cm : Nat) (may : List Sp) (K : KnE) (f : Nat) : Prop :=
 ∀ (S : Int), 0 < S → S < 64 → S.toNat < f → GoodK K S → ∀ (s : St) (D : Hp') (so : Slc) (l : List Sp), Fine s → AdSt s kb km fb ob bb mb cb outb mb2 ab am cm may K D so l → l.length + 10 * pcN S.toNat ≤ 1000 → s.next + (20 * pcN S.toNat - 10) ≤ zh →
  ∃ v' s', yE Tryz.prog I 81 #[.int .i64 S, ptr cb, ptr outb, ptr mb2, ptr ab] s v' s' ∧ (∃ (D' : Hp') (so' : Slc) (l' : List Sp) (n : Nat), v' = .tuple ⟨[]⟩ ∧ HL (outb :: xm D) s s' ((outb, .cells [so'.v] 25) :: D') (20 * pcN S.toNat - 10) ∧ Own 62 10 D' so'.v (spsC l') l'.length ∧ l'.length = l.length + n ∧ TreeN may S n ∧ n + 1 ≤ pcN S.toNat)
end Go.Proofs.YtdejleegamcioaaGreat
namespace Go.Proofs.YtdejleegamcioaaGreat
open Go Go.M
theorem fb81 : yw Tryz.f81 (Tryz.f81.body.getD .skip) 5 = true := by kernel_rfl
theorem fc81 : yk Tryz.prog 81 = true := by kernel_rfl
theorem of162_0 : offF Tryz.prog 162 0 = some 0 := by kernel_rfl
set_option maxHeartbeats 4000000 in
set_option maxRecDepth 10000 in
theorem build_known {I : zJ} (hI : Plain I) {kb km fb ob bb mb : Nat} {may : List Sp} {K : KnE} {S sp sm : Int} {s : St} (hf : Fine s) (gK : s.get kb = some (.cells [.map (some km)] 221)) (lK : kb < s.next) (gR : s.get km = some (yG (knM K))) (lR : km < s.next) (hfe : yL (knM K) S = some (bV sp sm)) (hsm : 0 ≤ sm) (hroom : s.next + 2 ≤ zh) :
  ∃ v' s', yE Tryz.prog I 134 #[.int .i64 S, ptr kb, ptr fb, ptr ob, ptr bb, ptr mb] s v' s' ∧ (v' = .tuple ⟨[bV sp sm, .bool true]⟩ ∧ HL [] s s' [] 2) := by
 have H := hf.hl
 refine zY 6 (hI 134 (by decide) (by decide) (by decide) (by decide)) Tryz.func134 rfl fb134 rfl ?_
 refine zc (za rfl (zC H zf162 (by omega) (fun b7 s1 H => ?_)))
 refine za rfl (zk (zb (zq (zc (za rfl (zj sh221 rfl (by exact (H.kept _ lK (by simp)).trans gK) rfl (za rfl (zd rfl (za rfl (op_lookV1 (v := bV sp sm) un221 un23 rfl rfl ((H.kept _ lR (by simp)).trans gR) hfe (za rfl (yA rfl (za rfl (zH rfl rfl (za rfl (zH rfl rfl (za rfl (zC H zf162 (by omega) (fun b9 s2 H => ?_)))))))))))))))))))
 refine za rfl (zD (vs := [.int _ _, .int _ _]) H xK rfl rfl rfl rfl rfl (by omega) (fun s3 H => ?_))
 refine za rfl (zw rfl (zb (zc (za rfl (zl rfl (zb (zE rfl (yC [⟨0, 0, .light, [2]⟩, ⟨1, 0, .light, [0]⟩, ⟨2, 2, .light, [0]⟩, ⟨3, 6, .light, [0]⟩, ⟨4, 1, .whole, [2]⟩, ⟨5, 31, .light, []⟩] (by kernel_rfl) (by kernel_rfl) (yI rfl rfl sh162 rfl H.own0 (by exact H.lim0 (by omega)) rfl (ze rfl rfl (zf xj rfl ⟨rfl, (zy rfl rfl sh3 rfl H.own0 (by exact H.lim0 (by omega)) rfl (ze rfl rfl (qd rfl rfl (fun h => ⟨rfl, ?_⟩) (fun h => False.elim (by omega)))))⟩)))))))))))
 refine y5 (vs := [.int _ _, .int _ _]) (fr := [_]) H rfl rfl xK rfl rfl rfl rfl rfl rfl (by have hd := H.dist; simp only [List.pairwise_cons, List.mem_cons, List.not_mem_nil, or_false, forall_eq_or_imp, forall_eq, false_imp_iff, implies_true] at hd ⊢; try omega) (by omega) (fun s4 H => ?_)
 refine ze rfl rfl (zw rfl ⟨rfl, (z2 (zF (zV (zt (end_ct sh162 rfl H.own1 rfl rfl ?_)))))⟩)
 exact ⟨rfl, (H.sub (List.nil_sublist _))⟩
set_option maxHeartbeats 4000000 in
set_option maxRecDepth 10000 in
theorem add_step {I : zJ} (hI : Plain I) {kb km fb ob bb mb cb outb mb2 ab : Nat} {am : Option Addr} {cm : Nat} {may : List Sp} {K : KnE} (hm : xh may) (hml : may.length ≤ 100) (hK : KOK may K) {f : Nat} (ih : AdC I kb km fb ob bb mb cb outb mb2 ab am cm may K f) : AdC I kb km fb ob bb mb cb outb mb2 ab am cm may K (f + 1) := by
 intro S hS hS1 hSf hgd s D so l hf hst hln hroom
 have H := hst.hl hf
 obtain ⟨sp, sm, hfe, hSK, hsm⟩ := hgd.find hK
 have hbe := hK.1 _ hSK
 simp only at hbe
 obtain ⟨soa, son, soc⟩ := so
 have hpS := pc_one (w := S.toNat) (by omega) (by omega)
 have hpS6 := pc_six S.toNat
 refine zY 5 (hI 81 (by decide) (by decide) (by decide) (by decide)) Tryz.func81 rfl fb81 rfl ?_
 refine zc (za rfl (zj sh159 rfl (by exact hst.oldC H) rfl (za rfl (zd rfl (za rfl (zo rfl fc134 rfl ?_))))))
 obtain ⟨_, s9, hr, rfl, Hc⟩ := build_known (fb := fb) (ob := ob) (bb := bb) (mb := mb) (may := may) hI H.fine (hst.oldK H) (by have := hst.lK; have := H.le; omega) (hst.oldR H) (by have := hst.lR; have := H.le; omega) hfe hsm (by have := H.most; omega)
 refine ⟨_, _, hr, ?_⟩
 clear hr
 have H := H.call0 Hc
 clear Hc
 refine za rfl (yA rfl (za rfl (zH rfl rfl (za rfl (zH rfl rfl (za rfl (zC H zf162 (by omega) (fun b6 s1 H => ?_))))))))
 refine za rfl (zD (vs := [.int _ _, .int _ _]) H xK rfl rfl rfl rfl rfl (by omega) (fun s2 H => ?_))
 refine za rfl (zw rfl (zb (zc (za rfl (zf of162_0 rfl (za rfl (zj sh3 rfl H.own0 rfl (za rfl (qd rfl rfl (fun h => ?_) (fun h => ?_))))))))))
 ·refine zb (zE rfl ?_)
  obtain ⟨j, hjm, rfl, _, _, hjw, hg1, hg2k⟩ : ∃ j : Nat, j < may.length ∧ sp = (j : Int) ∧ 0 ≤ sm ∧ sm ≤ 6 * ((pcN S.toNat : Int) - 1) ∧ (may.getD j default).w = S ∧ GoodK K (may.getD j default).p ∧ GoodK K (zB S (may.getD j default).p) := by
   rcases hbe with hbe | hbe | hbe
   ·omega
   ·omega
   ·exact hbe
  obtain ⟨hsp, hpb⟩ := hm (may.getD j default) (yu hjm)
  obtain ⟨hf1, hf2, hf3, hf4, hf5, hf6⟩ := yU hsp hpb
  have hand := split_and hsp hpb
  rw [hjw] at hf2 hf3 hf4 hf5 hf6 hand
  have hpp := pc_parts (w := S.toNat) (p := (may.getD j default).p.toNat) (by omega) (by omega) hand
  rw [show S.toNat - (may.getD j default).p.toNat = (zB S (may.getD j default).p).toNat by rw [hf6]; omega] at hpp
  have hp1 := pc_one (w := (may.getD j default).p.toNat) (by omega) (by omega)
  have hp2 := pc_one (w := (zB S (may.getD j default).p).toNat) (by omega) (by omega)
  refine yC [⟨0, 0, .light, [1, 3, 5]⟩, ⟨1, 0, .light, [0, 3]⟩, ⟨2, 0, .light, [0, 1]⟩, ⟨3, 4, .light, [0, 1]⟩, ⟨4, 14, .light, [0]⟩, ⟨5, 30, .light, [0]⟩, ⟨6, 62, .whole, [0]⟩, ⟨7, 127, .whole, []⟩, ⟨8, 255, .whole, []⟩] (by kernel_rfl) (by kernel_rfl) (zy rfl rfl sh25 rfl H.own1 (by exact H.lim1 (by omega)) rfl (zy rfl rfl sh25 rfl (by exact hst.oldM H) (by (have := hst.lM; have := H.most; omega)) rfl (ze rfl rfl (zf of162_0 rfl ⟨rfl, (zy rfl rfl sh3 rfl H.own0 (by exact H.lim0 (by omega)) rfl ?_)⟩))))
  obtain ⟨_, _, cm2, e2, hgm2, hbm3, hcm2⟩ := (hst.oldS H).atS (i := (j : Int)) (k := j) rfl hjm
  cases e2
  refine ze rfl rfl (zM el25 rfl rfl (by omega) (by omega) ⟨rfl, (yI rfl rfl sh62 rfl hgm2 (by have := hbm3; have := H.most; omega) hcm2 ?_)⟩)
  have hl1 := H.lt1
  have Hn := (Fine.narrow (X := [outb]) H.fine (by intro p hp; simp only [List.mem_cons, List.not_mem_nil, or_false] at hp; omega)).hl
  refine zU rfl rfl (ya (c := (may.getD j default).cells) Hn sl25 rfl rfl (by have hmo := H.most; (try simp only at hmo); show _ + _ < _; (try simp only); omega) (fun b23 s23 Hc => ?_))
  have H := H.call (HL.wider H.fine (Nat.le_refl _) (fun _ h => List.mem_append_right _ h) Hc)
  clear Hc Hn hl1
  simp only [List.cons_append, List.nil_append] at H
  have hgt := H.own0
  have H := HL.swap (A := [_, _]) (B := D) H.drop0
  refine dr_appendOwn (fr := []) rfl rfl rfl H (by simp) (by simp) hst.isO sl25 un25 rfl rfl rfl (yH hgt rfl) (by decide) rfl rfl (by omega) (by omega) (fun b24 s24 H => ?_)
  refine dr_store2 (vs := [.slice _ _ _]) (fr := []) H rfl rfl sz25 rfl rfl rfl rfl rfl rfl (by have hd := H.dist; simp only [List.pairwise_cons, List.mem_cons, List.not_mem_nil, or_false, forall_eq_or_imp, forall_eq, false_imp_iff, implies_true] at hd ⊢; try omega) (by omega) (fun s3 H => ?_)
  refine z2 ?_
  have hoo : Own 62 10 [(b24, .cells (spsC l ++ (may.getD j default).cells) 62)] (Slc.v ⟨some ⟨b24, 0, none⟩, l.length + 1, 2 * (l.length + 1) + 1⟩) (spsC (l ++ [(may.getD j default)])) (l ++ [(may.getD j default)]).length := by
   rw [show spsC (l ++ [(may.getD j default)]) = spsC l ++ (may.getD j default).cells from flat_snoc, List.length_append]
   exact .block _ _ _ _ (by have h10 : ((may.getD j default).cells).length = 10 := rfl; simp only [List.length_append, sps_len, h10, List.length_singleton]; omega) (by simp only [List.length_singleton]; omega)
  have H : HL (outb :: xm D) s _ [(b6, _), (outb, .cells [Slc.v ⟨some ⟨b24, 0, none⟩, l.length + 1, 2 * (l.length + 1) + 1⟩] 25), (b24, .cells (spsC l ++ (may.getD j default).cells) 62)] _ := HL.swap (A := [_]) (B := [_, _]) H
  refine yC [⟨0, 0, .light, [1, 3, 6]⟩, ⟨1, 0, .light, [0, 3]⟩, ⟨2, 0, .light, [0, 1]⟩, ⟨3, 4, .light, [0, 1]⟩, ⟨4, 14, .light, [0]⟩, ⟨5, 30, .light, [0]⟩, ⟨6, 62, .light, [0]⟩, ⟨7, 127, .whole, []⟩] (by kernel_rfl) (by kernel_rfl) (zy rfl rfl sh103 rfl (by exact hst.oldA H) (by (have := hst.lA; have := H.most; omega)) rfl (zy rfl rfl sh25 rfl (by exact hst.oldM H) (by (have := hst.lM; have := H.most; omega)) rfl (ze rfl rfl (zf of162_0 rfl ⟨rfl, (zy rfl rfl sh3 rfl H.own0 (by exact H.lim0 (by omega)) rfl ?_)⟩))))
  obtain ⟨_, _, cm3, e3, hgm3, hbm4, hcm3⟩ := (hst.oldS H).atS (i := (j : Int)) (k := j) rfl hjm
  cases e3
  obtain ⟨c2, hg2, _, hp2c⟩ := Sl.gotS (hst.oldS H) (k := j) hjm
  refine ze rfl rfl (zM el25 rfl rfl (by omega) (by omega) ⟨rfl, (ze rfl rfl (zf xv rfl ⟨rfl, (zy rfl rfl y1 rfl hg2 (by have := hbm4; have := H.most; omega) hp2c ?_)⟩))⟩)
  have H00 := H
  refine zU rfl rfl (zo rfl fc81 rfl ?_)
  obtain ⟨_, s9, hr, D2, so2, l2, n1, rfl, Hc, ho2, hl2, ht1, hn1⟩ := ih (may.getD j default).p (by omega) (by omega) (by omega) hg1 _ [(b24, .cells (spsC l ++ (may.getD j default).cells) 62)] ⟨some ⟨b24, 0, none⟩, l.length + 1, 2 * (l.length + 1) + 1⟩ (l ++ [(may.getD j default)]) H.fine (hst.later H (.cons _ (List.Sublist.refl _)) hoo) (by simp only [List.length_append, List.length_singleton]; omega) (by have := H.most; omega)
  refine ⟨_, _, hr, ?_⟩
  clear hr
  have H := HL.callW (A := [_, _]) (L := [_]) (HL.swap (A := [_]) (B := [_, _]) H) Hc (by intro b hb; simp only [List.mem_cons, List.map_cons, List.map_nil, List.not_mem_nil, or_false] at hb; rcases hb with rfl | rfl; { exact ⟨_, List.mem_cons_self⟩ }; { exact ⟨_, List.mem_cons_of_mem _ List.mem_cons_self⟩ }) (by intro p hp; have := List.mem_map_of_mem (f := Prod.fst) hp; exact this)
  clear Hc
  have H := HL.swap (A := _ :: D2) (B := [_]) (HL.back H00 H)
  clear H00
  refine z2 (cw_draw [⟨0, 0, .light, [1, 3, 5]⟩, ⟨1, 0, .light, [0, 3]⟩, ⟨2, 0, .light, [0, 1]⟩, ⟨3, 4, .light, [0, 1]⟩, ⟨4, 14, .light, [0]⟩, ⟨5, 30, .light, [0]⟩, ⟨6, 62, .whole, [0]⟩, ⟨7, 127, .whole, []⟩] (by kernel_rfl) (by kernel_rfl) (zy rfl rfl sh103 rfl (by exact hst.oldA H) (by (have := hst.lA; have := H.most; omega)) rfl (zy rfl rfl sh25 rfl (by exact hst.oldM H) (by (have := hst.lM; have := H.most; omega)) rfl (ze rfl rfl (zf of162_0 rfl ⟨rfl, (zy rfl rfl sh3 rfl H.own0 (by exact H.lim0 (by omega)) rfl (ze rfl rfl (zM el25 rfl rfl (by omega) (by omega) ⟨rfl, ?_⟩)))⟩)))))
  obtain ⟨_, _, cm2, e2, hgm2, hbm3, hcm2⟩ := (hst.oldS H).atS (i := (j : Int)) (k := j) rfl hjm
  cases e2
  refine yI rfl rfl sh62 rfl hgm2 (by have := hbm3; have := H.most; omega) hcm2 (zU rfl rfl (zo rfl fc82 rfl ?_))
  have hlA := hst.lA
  have hle := H.le
  obtain ⟨_, s9, hr, rfl, Hc⟩ := orest_ok (x := (may.getD j default)) hI (Fine.narrow (X := [ab]) H.fine (by intro p hp; simp only [List.mem_cons, List.not_mem_nil, or_false] at hp; omega)) (by have hmo := H.most; (try simp only at hmo); show _ + _ ≤ _; simp only; omega)
  refine ⟨_, _, hr, ?_⟩
  clear hr
  have H := x8 H Hc
  clear Hc hlA hle
  rw [show zB (may.getD j default).w (may.getD j default).p = zB S (may.getD j default).p by rw [hjw]]
  have H00 := H
  refine zU rfl rfl (zo rfl fc81 rfl ?_)
  obtain ⟨_, s9, hr, D3, so3, l3, n2, rfl, Hc, ho3, hl3, ht2, hn2⟩ := ih (zB S (may.getD j default).p) (by omega) (by omega) (by omega) hg2k _ D2 so2 l2 H.fine (hst.later H (.cons _ (List.Sublist.refl _)) ho2) (by simp only [List.length_append, List.length_singleton] at hl2; omega) (by have := H.most; omega)
  refine ⟨_, _, hr, ?_⟩
  clear hr
  have H := HL.callW (A := _ :: D2) (L := [_]) (HL.swap (A := [_]) (B := _ :: D2) H) Hc (by intro b hb; obtain ⟨p, hp, rfl⟩ := List.mem_map.mp (show b ∈ xm ((outb, .cells [Slc.v so2] 25) :: D2) from hb); exact ⟨p.2, hp⟩) (by intro p hp; have := List.mem_map_of_mem (f := Prod.fst) hp; exact this)
  clear Hc
  have H := HL.back H00 H
  clear H00
  refine z2 (nrm_end (end_nil (⟨D3, so3, l3, 1 + n1 + n2, rfl, H.left.up (by omega), ho3, by simp only [List.length_append, List.length_singleton] at hl2; omega, .node (yu hjm) hjw ht1 ht2, by omega⟩)))
 refine zb (zx rfl (zA (nrm_end (end_nil (⟨D, ⟨soa, son, soc⟩, l, 0, rfl, H.drop0.up (by omega), hst.isO, rfl, .leaf ?_, by omega⟩)))))
 rcases hbe with hbe | hbe | ⟨i, _, hi, _⟩
 ·omega
 ·exact hbe.2.2
 ·omega
theorem add_all {I : zJ} (hI : Plain I) {kb km fb ob bb mb cb outb mb2 ab : Nat} {am : Option Addr} {cm : Nat} {may : List Sp} {K : KnE} (hm : xh may) (hml : may.length ≤ 100) (hK : KOK may K) : ∀ f, AdC I kb km fb ob bb mb cb outb mb2 ab am cm may K f
 | 0 => fun S _ _ h => by omega
 | f + 1 => add_step hI hm hml hK (add_all hI hm hml hK f)
end Go.Proofs.YtdejleegamcioaaGreat
namespace Go.Proofs
open Go.RowKit Go.Maps Go.Sort Go.Shelf Go.MapKept Go.WideShapes
open Go.WideElems (Fit rg)
variable {P : Program} {ρ : Go.Shelf.Ren}
theorem keys_fit {k e : TypeId} (hk : P.underlying k = some (.int .i64)) (he : P.underlying e = some .bool) {es : Array MapEntry} {clock : Nat} {ks : List Int} (hsize : es.size ≤ maxLen)
  (hkeys : es.toList.map (·.key) = ks.map (Value.int .i64)) (hvals : ∀ x ∈ es.toList, ∃ b, x.val = .bool b) (hwf : ∀ k ∈ ks, (Lit.int .i64 k).wf = true) (hnd : ks.Nodup) (hborn : ∀ x ∈ es.toList, x.born < clock) (hbn : (es.toList.map (·.born)).Nodup) :
  Fit (H := Unit) P k (plainElem P e) es clock := by
 refine ⟨hsize, ⟨hborn, hbn, ?_⟩, fun x hx => ?_⟩
 ·rw [hkeys]
  exact List.pairwise_map.2 (hnd.imp fun h e => h (by simpa using e))
 ·obtain ⟨b, hb⟩ := hvals x hx
  have : x.key ∈ ks.map (Value.int .i64) := by rw [← hkeys]; exact List.mem_map.mpr ⟨x, hx, rfl⟩
  obtain ⟨z, hz, he2⟩ := List.mem_map.mp this
  refine ⟨(.int .i64 z, .lit (.bool b)), ?_⟩
  have h1 := keyOf_int_mk hk (hwf z hz)
  simp only [Go.WideElems.rd, ← he2, h1, hb, plainElem_bool (H := Unit) he]
  rfl
theorem rg_key {k e : TypeId} (hk : P.underlying k = some (.int .i64)) {R : Value → Option (DataW Unit × List MemPlace)} : ∀ {es : List MapEntry} {ks : List Int}, es.map (·.key) = ks.map (Value.int .i64) → (∀ x ∈ es, ∃ y, Go.WideElems.rd P k R x = some y) → (∀ k ∈ ks, (Lit.int .i64 k).wf = true) → es.map (fun x => Go.intOf (rg P k R x).1) = ks
 | [], [], _, _, _ => rfl
 | [], _ :: _, h, _, _ => by simp at h
 | _ :: _, [], h, _, _ => by simp at h
 | x :: es, z :: ks, h, hr, hw => by
  simp only [List.map_cons, List.cons.injEq] at h ⊢
  refine ⟨?_, rg_key (e := e) hk h.2 (fun y hy => hr y (List.mem_cons_of_mem _ hy)) fun y hy => hw y (List.mem_cons_of_mem _ hy)⟩
  obtain ⟨y, hy⟩ := hr x (by simp)
  rw [Go.WideElems.rg_of hy]
  have h1 := Go.WideElems.rd_key hy
  rw [h.1, keyOf_int_mk hk (hw z (by simp))] at h1
  rw [← Option.some.inj h1]
  rfl
theorem sortedKeys_calls (L6 : SlLaysZI.n6 P ρ) (L10 : SlLaysZI.n10 P ρ)
  (hsort : ∀ (blk off cap : Nat) (zs : List Int) (w : World), Holds encZ w blk off zs.toArray → blk < w.heap.size → zs.length < 4611686018427387904 →
   Calls P (ρ.f 9) #[.slice (some ⟨blk, off, none⟩) zs.length cap] w fun e w' => e = .returned (.tuple #[]) ∧ ∃ n os, w' = grow (putRow encZ (Sort.ahead w n) blk off (zs.mergeSort fun x y => decide (x ≤ y)).toArray) os)
  (hsort0 : ∀ (p : Option Addr) (cap : Nat) (w : World), Calls P (ρ.f 9) #[.slice p 0 cap] w fun e w' => e = .returned (.tuple #[]) ∧ w' = w)
  (e9 : ∀ args w, (callFunc (ρ.f 9) args).run P w = .ok (.enter (ρ.f 9) args) w) (e10 : ∀ args w, (callFunc (ρ.f 10) args).run P w = .ok (.enter (ρ.f 10) args) w)
  {e : TypeId} (he : P.underlying e = some .bool)
  (Bm b : Nat) (es : Array MapEntry) (clock : Nat) (ks : List Int) (w : World) (hBm : Bm < w.heap.size) (hm : w.cell? ⟨Bm, 0, none⟩ = some (.map (some b))) (hb : w.heap[b]? = some (.map es clock)) (hsize : es.size ≤ 1000000)
  (hkeys : es.toList.map (·.key) = ks.map (Value.int .i64)) (hvals : ∀ x ∈ es.toList, ∃ b, x.val = .bool b) (hwf : ∀ k ∈ ks, (Lit.int .i64 k).wf = true) (hnd : ks.Nodup) (hborn : ∀ x ∈ es.toList, x.born < clock) (hbn : (es.toList.map (·.born)).Nodup) :
  Calls P (ρ.f 6) #[.func (.func (ρ.f 10)) #[] #[.pointer (some ⟨Bm, 0, none⟩)]] w fun e w' => ∃ v, e = .returned v ∧
   w'.ownsRow w.heap.size (ρ.t 26) 1 v ks.length ((ks.mergeSort (fun x y => decide (x ≤ y))).map encZ) ∧ (v = .slice none 0 0 ↔ ks = []) ∧ Below w.heap.size w w' := by
 have F := keys_fit L10.t26 he (by unfold maxLen; omega) hkeys hvals hwf hnd hborn hbn
 have hown : w.ownsMap P (ρ.t 26) (plainElem P e) b es.size (.map ((es.toList.map (rg P (ρ.t 26) (plainElem (H := Unit) P e))).foldr DataW.insert [])) := ⟨es, clock, hb, F, Nat.le_refl _, rfl⟩
 have hseq := (AnyZI.keys_stops L10 Fence.wide 1 trivial rfl (Nat.le_refl _) Bm b es.size _ w hBm hm hown).gives
 have hN : Maps.size (.map ((es.toList.map (rg P (ρ.t 26) (plainElem (H := Unit) P e))).foldr DataW.insert [])) = es.size := by
  rw [Maps.size_eq, (sorted_perm _).length_eq, List.length_map, Array.length_toList]
 have hIn : AnyZI.SortsIn P ρ Fence.wide 3 := ⟨fun blk off cap ss W h1 h2 h3 => callsIn_wide.2 (hsort blk off cap ss W h1 h2 h3), fun p cap W => callsIn_wide.2 (hsort0 p cap W)⟩
 have main := AnyZI.sorted_in L6 Fence.wide 4 trivial trivial trivial trivial rfl (Nat.le_refl _) hIn e9 (ρ.f 10) _ trivial e10 _ _ (by rw [hN]; unfold maxLen; omega) (by rw [hN]; omega) w hseq
 refine (callsIn_wide.1 main).mono ?_
 rintro e' w' ⟨v, ss, rfl, ⟨hp, _⟩, h1, h2, h3⟩
 have hpk : ss.Perm ks := by
  refine hp.trans ?_
  show (List.map _ _).Perm ks
  refine ((sorted_perm _).map _).trans ?_
  rw [List.map_map]
  have := rg_key (e := e) L10.t26 (R := plainElem P e) hkeys F.reads hwf
  rw [show (fun p : Lit × DataW Unit => Go.intOf p.1) ∘ rg P (ρ.t 26) (plainElem P e) = fun x => Go.intOf (rg P (ρ.t 26) (plainElem P e) x).1 from rfl, this]
 refine ⟨v, rfl, ?_, ?_, h3⟩
 ·rw [← hpk.length_eq, ← mergeSort_of_perm_i hpk]
  exact h1
 ·rw [h2]
  constructor
  ·rintro rfl; exact hpk.symm.eq_nil
  ·rintro rfl; exact hpk.eq_nil
end Go.Proofs
namespace Go.Proofs.YtdejleegamcioaaGreat
open Go Go.Shelf Go.RowKit Go.Sort
def keysRen : Go.Shelf.Ren := ⟨fun | 6 => 79 | 7 => 80 | 8 => 137 | 9 => 43 | 10 => 138 | 11 => 194 | n => n, fun | 23 => 164 | 24 => 31 | 26 => 23 | 27 => 166 | 28 => 167 | 33 => 169 | 3 => 4 | n => n, fun | n => n⟩
theorem keysLays6 : SlLaysZI.n6 Tryz.prog keysRen where
 mixed := by kernel_rfl
 f6 := ⟨Tryz.f79.name, by decide, Tryz.func79.trans (congrArg some (by kernel_rfl))⟩
 f8 := ⟨Tryz.f137.name, by decide, Tryz.func137.trans (congrArg some (by kernel_rfl))⟩
 f11 := ⟨Tryz.f194.name, by decide, Tryz.func194.trans (congrArg some (by kernel_rfl))⟩
 t0 := Tryz.underlying0
 a0 := Tryz.isAgg0
 z0 := Tryz.sizeOf0
 v0 := Tryz.zeroValue0
 t24 := Tryz.underlying31
 a24 := Tryz.isAgg31
 z24 := Tryz.sizeOf31
 v24 := Tryz.zeroValue31
 t26 := Tryz.underlying23
 a26 := Tryz.isAgg23
 z26 := Tryz.sizeOf23
 v26 := Tryz.zeroValue23
 t28 := Tryz.underlying167
 a28 := Tryz.isAgg167
 z28 := Tryz.sizeOf167
 v28 := Tryz.zeroValue167
 i26 := by kernel_rfl
theorem keysLays7 : SlLaysZI.n7 Tryz.prog keysRen where
 mixed := by kernel_rfl
 f7 := ⟨Tryz.f80.name, by decide, Tryz.func80.trans (congrArg some (by kernel_rfl))⟩
 f10 := ⟨Tryz.f138.name, by decide, Tryz.func138.trans (congrArg some (by kernel_rfl))⟩
 t0 := Tryz.underlying0
 a0 := Tryz.isAgg0
 z0 := Tryz.sizeOf0
 v0 := Tryz.zeroValue0
 t4 := Tryz.underlying4
 a4 := Tryz.isAgg4
 z4 := Tryz.sizeOf4
 v4 := Tryz.zeroValue4
 t23 := Tryz.underlying164
 a23 := Tryz.isAgg164
 z23 := Tryz.sizeOf164
 v23 := Tryz.zeroValue164
 t26 := Tryz.underlying23
 a26 := Tryz.isAgg23
 z26 := Tryz.sizeOf23
 v26 := Tryz.zeroValue23
 t27 := Tryz.underlying166
 a27 := Tryz.isAgg166
 z27 := Tryz.sizeOf166
 v27 := Tryz.zeroValue166
 t28 := Tryz.underlying167
 a28 := Tryz.isAgg167
 z28 := Tryz.sizeOf167
 v28 := Tryz.zeroValue167
 t33 := Tryz.underlying169
 a33 := Tryz.isAgg169
 z33 := Tryz.sizeOf169
 v33 := Tryz.zeroValue169
theorem keysLays10 : SlLaysZI.n10 Tryz.prog keysRen := { keysLays7 with }
theorem keys_call (r : Nat) (w : World) : Calls Tryz.prog 80 #[.map (some r)] w fun e w' => e = .returned (.func (.func 138) #[] #[.pointer (some ⟨w.heap.size, 0, none⟩)]) ∧ w' = w.alloc (.cells #[.map (some r)] 164) :=
 callsIn_wide.1 (AnyZI.keys_in keysLays7 Fence.wide 3 trivial rfl (some r) w)
theorem sort_none (p : Option Addr) (cap : Nat) (w : World) : Calls Tryz.prog 43 #[.slice p 0 cap] w fun e w' => e = .returned (.tuple #[]) ∧ w' = w :=
 AnyM.slices_Sort_int_none sortLays p cap w
theorem sorted_call (Bm b : Nat) (es : Array MapEntry) (clock : Nat) (ks : List Int) (w : World) (hBm : Bm < w.heap.size) (hm : w.cell? ⟨Bm, 0, none⟩ = some (.map (some b))) (hb : w.heap[b]? = some (.map es clock)) (hsize : es.size ≤ 1000000)
  (hkeys : es.toList.map (·.key) = ks.map (Value.int .i64)) (hvals : ∀ x ∈ es.toList, ∃ b, x.val = .bool b) (hwf : ∀ k ∈ ks, (Lit.int .i64 k).wf = true) (hnd : ks.Nodup) (hborn : ∀ x ∈ es.toList, x.born < clock) (hbn : (es.toList.map (·.born)).Nodup) :
  Calls Tryz.prog 79 #[.func (.func 138) #[] #[.pointer (some ⟨Bm, 0, none⟩)]] w fun e w' => ∃ v, e = .returned v ∧
   w'.ownsRow w.heap.size 23 1 v ks.length ((ks.mergeSort (fun x y => decide (x ≤ y))).map (Value.int .i64)) ∧ (v = .slice none 0 0 ↔ ks = []) ∧ Below w.heap.size w w' :=
 sortedKeys_calls keysLays6 keysLays10 (fun blk off cap zs w h1 h2 h3 => sort_call blk off cap zs w h1 h2 h3) sort_none
  (sortLays.f5.enters rfl) (keysLays10.f10.enters rfl) Tryz.underlying4 Bm b es clock ks w hBm hm hb hsize hkeys hvals hwf hnd hborn hbn
end Go.Proofs.YtdejleegamcioaaGreat
namespace Go.M
variable {P : Program} {β : Ren} {s : St} {w : World}
theorem Ext.young (h : Rel P β s w) (hroom : s.next < 281474976710655) (hn : β s.next = none) {w' : World} (hsize : w.heap.size ≤ w'.heap.size) (hsame : ∀ r, r < w.heap.size → w'.heap[r]? = w.heap[r]?) (hos : w'.os = w.os) (hout : w'.output = w.output) (htape : w'.tape = w.tape)
  {o₁ : MObj} {o' : Obj} {m : Img} (hm : w.heap.size ≤ m.blk) (hg : w'.heap[m.blk]? = some o') (ho : ORel P β m o₁ o') :
  Ext P β s w (β.add s.next m) (s.new o₁) w' := by
 have gp := fun b' => St.get_new (s := s) (by omega) o₁ b'
 have hle : β.le (β.add s.next m) := Ren.le_add hn
 have at_ : ∀ b m', β.add s.next m b = some m' → b ≠ s.next → β b = some m' := fun b m' hh ne => by
  simpa [Ren.add, ne] using hh
 have hblk : m.blk < w'.heap.size := by
  rcases Nat.lt_or_ge m.blk w'.heap.size with h | h
  ·exact h
  ·rw [Array.getElem?_eq_none h] at hg; cases hg
 exact {
  rel := {
   img := fun b m' hb hlt => by
    by_cases e : b = s.next
    ·subst e; rw [Ren.add_self] at hb; cases hb; exact hblk
    ·have := h.img b m' (at_ b m' hb e) (by simp at hlt; omega); omega
   obj := fun b m' o hb hlt hgo => by
    rw [gp] at hgo
    by_cases e : b = s.next
    ·subst e
     rw [if_pos rfl] at hgo; cases hgo
     rw [Ren.add_self] at hb; cases hb
     exact ⟨o', hg, ho.mono hle⟩
    ·rw [if_neg e] at hgo
     have hb' := at_ b m' hb e
     have hlt' : b < s.next := by simp at hlt; omega
     obtain ⟨o'', h1, h2⟩ := h.obj b m' o hb' hlt' hgo
     have := h.img b m' hb' hlt'
     exact ⟨o'', by rw [hsame _ this]; exact h1, h2.mono hle⟩
   inj := fun b1 b2 m1 m2 o1 o2 h1 h2 l1 l2 g1 g2 e => by
    rw [gp] at g1 g2
    by_cases e1 : b1 = s.next
    ·by_cases e2 : b2 = s.next
     ·omega
     ·subst e1; rw [Ren.add_self] at h1; cases h1
      have := h.img b2 m2 (at_ b2 m2 h2 e2) (by simp at l2; omega)
      omega
    ·by_cases e2 : b2 = s.next
     ·subst e2; rw [Ren.add_self] at h2; cases h2
      have := h.img b1 m1 (at_ b1 m1 h1 e1) (by simp at l1; omega)
      omega
     ·rw [if_neg e1] at g1; rw [if_neg e2] at g2
      exact h.inj b1 b2 m1 m2 o1 o2 (at_ _ _ h1 e1) (at_ _ _ h2 e2) (by simp at l1; omega) (by simp at l2; omega) g1 g2 e
   room := by simp; omega
   top := fun b hb => by simp at hb; rw [gp, if_neg (by omega)]; exact h.top b (by omega) }
  le := hle
  dom := fun b m' h1 h2 => by
   by_cases e : b = s.next
   ·subst e; simp
   ·rw [at_ b m' h1 e] at h2; cases h2
  next := by simp
  bar := rfl
  prot := rfl
  size := hsize
  out := fun r hr _ => hsame r hr
  same := fun b hb _ => by rw [gp, if_neg (by omega)]
  dead := fun b hb hd => by rw [gp, if_neg (by omega)]; exact hd
  fresh := fun b m' h1 h2 => by
   by_cases e : b = s.next
   ·subst e; rw [Ren.add_self] at h1; cases h1; exact .inl hm
   ·rw [at_ b m' h1 e] at h2; cases h2
  os := hos
  output := hout
  tape := htape }
end Go.M
namespace Go.Proofs.YtdejleegamcioaaGreat
open Go Go.M
def keysI (args : Array Value) (s : St) : CallOut :=
 match args.toList with
 | [.map (some r)] => match s.room with
  | true => .ret (.func (.func 138) ⟨[]⟩ ⟨[.pointer (some ⟨s.next, 0, none⟩)]⟩) (s.new (.cells [.map (some r)] 164))
  | false => .stuck
 | _ => .stuck
theorem keysI_spec {args : Array Value} {s : St} (h : keysI args s ≠ .stuck) : ∃ r, args.toList = [.map (some r)] ∧ s.room = true ∧ keysI args s = .ret (.func (.func 138) ⟨[]⟩ ⟨[.pointer (some ⟨s.next, 0, none⟩)]⟩) (s.new (.cells [.map (some r)] 164)) := by
 revert h
 unfold keysI
 split
 ·next r e =>
  split
  ·next hr => intro _; exact ⟨r, e, hr, rfl⟩
  ·intro h; exact absurd rfl h
 ·intro h; exact absurd rfl h
theorem keys_sound {args args' : Array Value} {s : St} {β : Go.M.Ren} {w : World} (hrel : Rel Tryz.prog β s w) (ha : LRel Tryz.prog β args.toList args'.toList) (hne : keysI args s ≠ .stuck) (hfree : (keysI args s).free β s) : Calls Tryz.prog 80 args' w (CallP Tryz.prog β s w (keysI args s)) := by
 obtain ⟨r, h1, hr, h2⟩ := keysI_spec hne
 rw [h2] at hfree ⊢
 rw [h1] at ha
 have key : ∃ m, β r = some m ∧ args' = #[.map (some m.blk)] := by
  cases hl : args'.toList with
  | nil => rw [hl] at ha; cases ha
  | cons v' l' =>
   rw [hl] at ha
   have hargs : args' = ⟨v' :: l'⟩ := by rw [← hl]
   cases ha with
   | cons hv hnil =>
    cases hnil
    cases hv with
    | mref hb => exact ⟨_, hb, hargs⟩
 obtain ⟨m, hb, rfl⟩ := key
 refine (keys_call m.blk w).mono ?_
 rintro e w' ⟨rfl, rfl⟩
 have hn := free_new hfree
 refine ⟨_, _, rfl, Ext.row hrel hr hn (c' := #[.map (some m.blk)]) 164 (0, 0) (by simp) (fun i v hv => ?_), .func .nil (.cons (VRel.ptr (m := ⟨w.heap.size, 0, 1, 164⟩) Go.M.Ren.add_self) .nil) (by simp [flatB])⟩
 cases i with
 | zero => simp only [List.getElem?_cons_zero, Option.some.injEq] at hv; subst hv; exact ⟨_, rfl, .mref hb⟩
 | succ i => simp at hv
def keyL : List MapEntry → Option (List Int)
 | [] => some []
 | ⟨.int .i64 k, .bool _, _⟩ :: l => match keyL l with
  | some r => some (k :: r)
  | none => none
 | _ => none
theorem keyL_spec : ∀ {l : List MapEntry} {ks : List Int}, keyL l = some ks → l.map (·.key) = ks.map (Value.int .i64) ∧ ∀ x ∈ l, ∃ b, x.val = .bool b
 | [], ks, h => by cases h; exact ⟨rfl, by simp⟩
 | x :: l, ks, h => by
  unfold keyL at h
  split at h
  ·rename_i e; cases e
  ·next k v b l' e =>
   cases e
   split at h
   ·next r hr =>
    cases h
    obtain ⟨h1, h2⟩ := keyL_spec hr
    refine ⟨by simp [h1], fun y hy => ?_⟩
    rcases List.mem_cons.mp hy with rfl | hy
    ·exact ⟨_, rfl⟩
    ·exact h2 y hy
   ·cases h
  ·cases h
def keysOK (es : List MapEntry) (clock : Nat) (ks : List Int) : Prop :=
 keyL es = some ks ∧ es.length ≤ 1000000 ∧ (∀ k ∈ ks, (Lit.int .i64 k).wf = true) ∧ ks.Nodup ∧ (∀ x ∈ es, x.born < clock) ∧ (es.map (·.born)).Nodup
open Classical in
noncomputable def xa (args : Array Value) (s : St) : CallOut :=
 if h : ∃ b bm e es clock ks, args.toList = [.func (.func 138) ⟨[]⟩ ⟨[.pointer (some ⟨b, 0, none⟩)]⟩] ∧ s.get b = some (.cells [.map (some bm)] e) ∧ s.get bm = some (.map es clock) ∧ keysOK es.toList clock ks ∧ s.room = true then
  if h.choose_spec.choose_spec.choose_spec.choose_spec.choose_spec.choose = [] then .ret (.slice none 0 0) s
  else .ret (.slice (some ⟨s.next, 0, none⟩) h.choose_spec.choose_spec.choose_spec.choose_spec.choose_spec.choose.length (2 * h.choose_spec.choose_spec.choose_spec.choose_spec.choose_spec.choose.length + 1)) (s.new (.cells (z7 (yp h.choose_spec.choose_spec.choose_spec.choose_spec.choose_spec.choose)) 23))
 else .stuck
theorem sortedI_spec {args : Array Value} {s : St} (h : xa args s ≠ .stuck) : ∃ b bm e es clock ks, args.toList = [.func (.func 138) ⟨[]⟩ ⟨[.pointer (some ⟨b, 0, none⟩)]⟩] ∧ s.get b = some (.cells [.map (some bm)] e) ∧ s.get bm = some (.map es clock) ∧ keysOK es.toList clock ks ∧ s.room = true ∧
  xa args s = if ks = [] then .ret (.slice none 0 0) s else .ret (.slice (some ⟨s.next, 0, none⟩) ks.length (2 * ks.length + 1)) (s.new (.cells (z7 (yp ks)) 23)) := by
 revert h
 unfold xa
 split
 ·next h =>
  intro _
  have h' := h.choose_spec.choose_spec.choose_spec.choose_spec.choose_spec.choose_spec
  exact ⟨_, _, _, _, _, _, h'.1, h'.2.1, h'.2.2.1, h'.2.2.2.1, h'.2.2.2.2, by split <;> rfl⟩
 ·intro h; exact absurd rfl h
theorem sortedI_of {args : Array Value} {s : St} {b bm : Nat} {e : TypeId} {es : Array MapEntry} {clock : Nat} {ks : List Int} (h1 : args.toList = [.func (.func 138) ⟨[]⟩ ⟨[.pointer (some ⟨b, 0, none⟩)]⟩]) (h2 : s.get b = some (.cells [.map (some bm)] e)) (h3 : s.get bm = some (.map es clock)) (h4 : keysOK es.toList clock ks) (h5 : s.room = true) :
  xa args s = if ks = [] then .ret (.slice none 0 0) s else .ret (.slice (some ⟨s.next, 0, none⟩) ks.length (2 * ks.length + 1)) (s.new (.cells (z7 (yp ks)) 23)) := by
 have hne : xa args s ≠ .stuck := by
  unfold xa
  rw [dif_pos ⟨b, bm, e, es, clock, ks, h1, h2, h3, h4, h5⟩]
  split <;> simp
 obtain ⟨b', bm', e', es', clock', ks', g1, g2, g3, g4, g5, g6⟩ := sortedI_spec hne
 rw [h1] at g1
 simp only [List.cons.injEq, Value.func.injEq, Array.mk.injEq, Value.pointer.injEq, Option.some.injEq, Addr.mk.injEq, and_true, true_and] at g1
 subst g1
 rw [h2] at g2
 simp only [Option.some.injEq, MObj.cells.injEq, List.cons.injEq, Value.map.injEq, and_true] at g2
 obtain ⟨rfl, rfl⟩ := g2
 rw [h3] at g3
 simp only [Option.some.injEq, MObj.map.injEq] at g3
 obtain ⟨rfl, rfl⟩ := g3
 have := g4.1
 rw [h4.1] at this
 cases this
 exact g6
theorem sorted_sound {args args' : Array Value} {s : St} {β : Go.M.Ren} {w : World} (hrel : Rel Tryz.prog β s w) (ha : LRel Tryz.prog β args.toList args'.toList) (hne : xa args s ≠ .stuck) (hfree : (xa args s).free β s) : Calls Tryz.prog 79 args' w (CallP Tryz.prog β s w (xa args s)) := by
 obtain ⟨b, bm, e, es, clock, ks, h1, h2, h3, h4, h5, h6⟩ := sortedI_spec hne
 rw [h6] at hfree ⊢
 rw [h1] at ha
 have key : ∃ m, β b = some m ∧ m.sh = 0 ∧ args' = #[.func (.func 138) #[] #[.pointer (some ⟨m.blk, 0, none⟩)]] := by
  cases hl : args'.toList with
  | nil => rw [hl] at ha; cases ha
  | cons v' l' =>
   rw [hl] at ha
   have hargs : args' = ⟨v' :: l'⟩ := by rw [← hl]
   cases ha with
   | cons hv hnil =>
    cases hnil
    cases hv with
    | func hf hc fl =>
     cases hf
     cases hc with
     | cons hp hn2 =>
      cases hn2
      cases hp with
      | ptr hb =>
       next m =>
       have hsh : m.sh = 0 := by simpa [flatB, keysF] using fl
       refine ⟨m, hb, hsh, ?_⟩
       rw [hargs, hsh]
 obtain ⟨m, hb, hsh, rfl⟩ := key
 obtain ⟨hk1, hk2, hk3, hk4, hk5, hk6⟩ := h4
 obtain ⟨hkeys, hvals⟩ := keyL_spec hk1
 have hblt := hrel.lt h2
 have hBm := hrel.img b m hb hblt
 obtain ⟨o', ho', hor⟩ := hrel.obj b m _ hb hblt h2
 cases hor with
 | @cells _ _ e' c' fz he hsz hln hfz hc =>
  obtain ⟨v', hv1, hv2⟩ := hc 0 (.map (some bm)) rfl
  cases hv2 with
  | mref hbm =>
   next mm =>
   obtain ⟨o2, ho2, hor2⟩ := hrel.obj bm mm _ hbm (hrel.lt h3) h3
   cases hor2 with
   | @map _ es' _ hlen hes =>
    have hcell : w.cell? ⟨m.blk, 0, none⟩ = some (.map (some mm.blk)) := by
     rw [Nat.zero_add, hsh] at hv1
     simp [World.cell?, ho', hv1]
    have hrelE : ∀ i, i < es.size → ∃ x x', es[i]? = some x ∧ es'[i]? = some x' ∧ ERel Tryz.prog β x x' := fun i hi => by
     obtain ⟨x', hx, hr⟩ := hes i es[i] (by simp [hi])
     exact ⟨es[i], x', by simp [hi], hx, hr⟩
    have hkey' : es'.toList.map (·.key) = es.toList.map (·.key) := by
     apply List.ext_getElem?
     intro i
     simp only [List.getElem?_map, Array.getElem?_toList]
     by_cases hi : i < es.size
     ·obtain ⟨x, x', g1, g2, g3, _, _⟩ := hrelE i hi
      rw [g1, g2]
      have hmem : x.key ∈ es.toList.map (·.key) := List.mem_map.mpr ⟨x, by rw [Array.mem_toList_iff]; exact Array.mem_of_getElem? g1, rfl⟩
      rw [hkeys] at hmem
      obtain ⟨z, _, hz⟩ := List.mem_map.mp hmem
      rw [← hz] at g3
      simp only [Option.map_some, Option.some.injEq]
      rw [← hz]
      generalize x'.key = y at g3
      cases g3
      rfl
     ·rw [Array.getElem?_eq_none (by omega), Array.getElem?_eq_none (by omega)]
    have hborn' : es'.toList.map (·.born) = es.toList.map (·.born) := by
     apply List.ext_getElem?
     intro i
     simp only [List.getElem?_map, Array.getElem?_toList]
     by_cases hi : i < es.size
     ·obtain ⟨x, x', g1, g2, _, _, g5⟩ := hrelE i hi
      rw [g1, g2]
      simp [g5]
     ·rw [Array.getElem?_eq_none (by omega), Array.getElem?_eq_none (by omega)]
    have hvals' : ∀ x ∈ es'.toList, ∃ b, x.val = .bool b := fun x hx => by
     rw [Array.mem_toList_iff] at hx
     obtain ⟨i, hi, hxi⟩ := Array.mem_iff_getElem.mp hx
     obtain ⟨y, x', g1, g2, _, g4, _⟩ := hrelE i (by omega)
     rw [Array.getElem?_eq_getElem hi, hxi] at g2
     cases g2
     obtain ⟨bb, hbb⟩ := hvals y (by rw [Array.mem_toList_iff]; exact Array.mem_of_getElem? g1)
     rw [hbb] at g4
     generalize x.val = y at g4
     cases g4
     exact ⟨bb, rfl⟩
    have hbl' : ∀ x ∈ es'.toList, x.born < clock := fun x hx => by
     have : x.born ∈ es'.toList.map (·.born) := List.mem_map.mpr ⟨x, hx, rfl⟩
     rw [hborn'] at this
     obtain ⟨y, hy, e2⟩ := List.mem_map.mp this
     rw [← e2]; exact hk5 y hy
    refine (sorted_call m.blk mm.blk es' clock ks w hBm hcell ho2 (by rw [hlen]; simpa using hk2) (hkey'.trans hkeys) hvals' hk3 hk4 hbl' (by rw [hborn']; exact hk6)).mono ?_
    rintro e2 w' ⟨v, rfl, hrow, hnil, hB⟩
    have hms : (ks.mergeSort fun x y => decide (x ≤ y)) = yp ks := mergeSort_isort ks
    rw [hms] at hrow
    by_cases hks : ks = []
    ·rw [if_pos hks]
     rw [hnil.mpr hks]
     exact ⟨β, _, rfl, Ext.more (.refl hrel) hB.size (fun r hr => hB.block r hr) hB.os hB.output hB.tape, .snil⟩
    ·rw [if_neg hks] at hfree ⊢
     have hn := free_new hfree
     rcases hrow.2 with ⟨rfl, hz⟩ | ⟨g, cap, cur, rfl, hbase, hgb, r1, r2, r3, r4⟩
     ·exact absurd (hnil.mp rfl) hks
     ·have hlen2 : (yp ks).length = ks.length := (yX ks).length_eq
      refine ⟨_, _, rfl, Ext.young hrel (room_lt h5) hn hB.size (fun r hr => hB.block r hr) hB.os hB.output hB.tape (m := ⟨g, 0, cur.size, 23⟩) hbase hgb ?_, ?_⟩
      ·refine .cells rfl (Nat.le_refl _) (.inr ?_) (fun i _ _ h => by simp only at h; omega) fun i x hx => ?_
       ·simp only [z7, List.length_map, hlen2, r3]; omega
       ·have : cur.toList[i]? = some x := by
         have hi : i < ks.length * 1 := by
          rcases Nat.lt_or_ge i (ks.length * 1) with h | h
          ·exact h
          ·rw [List.getElem?_eq_none (by simp [z7, hlen2]; omega)] at hx; cases hx
         rw [← List.getElem?_take_of_lt hi, r4]
         exact hx
        refine ⟨x, by simpa using this, ?_⟩
        obtain ⟨z, _, rfl⟩ := List.mem_map.mp (List.mem_of_getElem? hx)
        exact .int _ _
      ·have := VRel.sgrown (P := Tryz.prog) (β := β.add s.next ⟨g, 0, cur.size, 23⟩) (b := s.next) (off := 0) (len := ks.length) (c := ks.length) (cap := cap) (m := ⟨g, 0, cur.size, 23⟩) Go.M.Ren.add_self r1 (by
        have : Tryz.prog.cellsOf 23 = 1 := by kernel_rfl
        simp only [this, r3]; omega)
       simpa using this
end Go.Proofs.YtdejleegamcioaaGreat
