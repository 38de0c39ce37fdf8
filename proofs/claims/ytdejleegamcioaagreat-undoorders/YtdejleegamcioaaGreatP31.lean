/- order.builder: what it makes. -/
/- order.builder's function: what is known, and the state in which it runs. -/
import Derived.Test.YtdejleegamcioaaGreatP30
namespace Go.Proofs.YtdejleegamcioaaGreat
open Go Go.M
theorem fb78 : yw Tryz.f78 (Tryz.f78.body.getD .skip) 2 = true := by kernel_rfl
theorem sh159 : z1 Tryz.prog 159 = some (none) := by kernel_rfl
theorem sh164 : z1 Tryz.prog 164 = some (none) := by kernel_rfl
theorem sh220 : z1 Tryz.prog 220 = some (none) := by kernel_rfl
theorem sz159 : yR Tryz.prog 159 = some 1 := by kernel_rfl
theorem sz164 : yR Tryz.prog 164 = some 1 := by kernel_rfl
theorem sz220 : yR Tryz.prog 220 = some 1 := by kernel_rfl
theorem sz221 : yR Tryz.prog 221 = some 1 := by kernel_rfl
theorem un164 : Tryz.prog.underlying 164 = some (.map 23 4) := by kernel_rfl
theorem un220 : Tryz.prog.underlying 220 = some (.map 23 22) := by kernel_rfl
theorem zf159 : xQ Tryz.prog 159 = some [.nilFunc] := by kernel_rfl
theorem zf164 : xQ Tryz.prog 164 = some [.map none] := by kernel_rfl
theorem zf220 : xQ Tryz.prog 220 = some [.map none] := by kernel_rfl
theorem zf221 : xQ Tryz.prog 221 = some [.map none] := by kernel_rfl
theorem zv22 : zeroV Tryz.prog 22 = some (.slice none 0 0) := by kernel_rfl
set_option maxHeartbeats 4000000 in
set_option maxRecDepth 10000 in
theorem builder_ok {I : zJ} (hI : Plain I) {s : St} (hf : Fine s) {vm vs : Value} {may : List Sp} {st : List Int} (hm : Sl s 62 10 vm (may.map Sp.cells)) (hs : Sl s 23 1 vs (st.map dc)) (hml : may.length ≤ 100) (hsl : st.length ≤ 1000) (hroom : s.next + 2000 ≤ zh) :
  ∃ v' s', yE Tryz.prog I 78 #[vm, vs] s v' s' ∧ (∃ (b12 b11 km b8 om b5 fm b2 : Nat) (Ef : yV) (E : OfE), v' = Value.func (.func 134) ⟨[]⟩ ⟨[ptr b11, ptr b5, ptr b8, ptr b12, ptr b2]⟩ ∧ HL [] s s' ([(b12, .cells [Value.func (.func 134) ⟨[]⟩ ⟨[ptr b11, ptr b5, ptr b8, ptr b12, ptr b2]⟩] 159), (b11, .cells [.map (some km)] 221), (km, yG []), (b8, .cells [.map (some om)] 220), (om, yG (ofM E)), (b5, .cells [.map (some fm)] 164), (fm, yG Ef), (b2, .cells [vm] 25)] ++ ofB E) 2000 ∧ OfOK may may.length E ∧ BoolM Ef) := by
 have H := hf.hl
 obtain ⟨am, lm, cm, rfl, hn⟩ := hm.isSlice
 rw [List.length_map] at hn
 subst hn
 obtain ⟨as_, ls, cs, rfl, hn⟩ := hs.isSlice
 rw [List.length_map] at hn
 subst hn
 refine zY 2 (hI 78 (by decide) (by decide) (by decide) (by decide)) Tryz.func78 rfl fb78 rfl ?_
 refine zc (za rfl (op_boxS H rfl (by omega) (fun b2 s1 H => ?_)))
 refine za rfl (zk (zb (zc (za rfl (op_newMap H (by omega) (fun b13 s91 H => ?_))))))
 refine za rfl (zC H zf164 (by omega) (fun b5 s2 H => ?_))
 refine za rfl (zD (vs := [.map _]) H sz164 rfl rfl rfl rfl rfl (by omega) (fun s3 H => ?_))
 refine zb (zq (zc (za rfl (zp rfl (za rfl (yf un31 rfl rfl rfl (za rfl (xV (zb (zI (yP (fun k F s1 => ∃ (G : FF) (i : Nat) (Ef : yV), F = lay G [(2, ptr b2), (5, ptr b5), (14, .slice as_ st.length cs), (15, .int .i64 (st.length : Int)), (16, .int .i64 (i : Int))] ∧ HL [] s s1 [(b5, .cells [.map (some b13)] 164), (b13, yG Ef), (b2, .cells [.slice am may.length cm] 25)] 3 ∧ BoolM Ef ∧ i ≤ st.length ∧ k = st.length - i) ?_ st.length _ _ ?_)))))))))))
 rotate_left
 ·exact ⟨_, 0, [], yd ⟨rfl, rfl, rfl, rfl, rfl, trivial⟩, H, (fun e he => by cases he), by omega, by omega⟩
 rintro k F s1 ⟨G, i, Ef, rfl, H, hbm, hi, rfl⟩
 refine zc (za rfl (yq rfl rfl (fun h => ?_) (fun h => ?_)))
 ·refine zb (zq (zE rfl (zA (zi (zq (zI (zc ?_)))))))
  obtain ⟨b, off, c, rfl, hg, hb, hc⟩ := (hs.kept H).atD (i := (i : Int)) (k := i) rfl (by omega)
  refine za rfl (zM el31 rfl rfl (by omega) (by omega) (za rfl (zj y1 rfl hg hc (za rfl (zm rfl (zb (zv (za rfl (zj sh164 rfl H.own0 rfl (za rfl (zd rfl (za rfl (op_updV [_] (y := .bool true) H un164 un23 rfl rfl rfl (by omega) (fun s94 H => ?_))))))))))))))
  refine zb (zP (zi (zv (za rfl (zT rfl rfl (by unfold zQ; omega) (za rfl (zd rfl (zb (zN ?_)))))))))
  exact ⟨st.length - (i + 1), by omega, _, i + 1, _, yd ⟨rfl, rfl, rfl, rfl, rfl, trivial⟩, H, hbm.put _ true, by omega, rfl⟩
 refine zb (zq (zx rfl (yn (zX (yh (ye (zi (zc (za rfl (op_newMap H (by omega) (fun b23 s92 H => ?_)))))))))))
 refine za rfl (zC H zf220 (by omega) (fun b8 s4 H => ?_))
 refine za rfl (zD (vs := [.map _]) H sz220 rfl rfl rfl rfl rfl (by omega) (fun s5 H => ?_))
 refine zb (zq (zc (za rfl (zj sh25 rfl H.own4 rfl (za rfl (yf un25 rfl rfl rfl (za rfl (xV (zb (zI (yP (fun k F s1 => ∃ (G : FF) (i : Nat) (E : OfE), F = lay G [(2, ptr b2), (5, ptr b5), (8, ptr b8), (24, .slice am may.length cm), (25, .int .i64 (may.length : Int)), (26, .int .i64 (i : Int))] ∧ HL [] s s1 ((b8, .cells [.map (some b23)] 220) :: (b23, yG (ofM E)) :: (b5, .cells [.map (some b13)] 164) :: (b13, yG Ef) :: (b2, .cells [.slice am may.length cm] 25) :: ofB E) (6 + 3 * i) ∧ OfOK may i E ∧ i ≤ may.length ∧ k = may.length - i) ?_ may.length _ _ ?_)))))))))))
 rotate_left
 ·exact ⟨_, 0, [], yd ⟨rfl, rfl, rfl, rfl, rfl, rfl, trivial⟩, H.up (by omega), OfOK.nil, by omega, by omega⟩
 rintro k F s1 ⟨G, i, E, rfl, H, hok, hi, rfl⟩
 refine zc (za rfl (yq rfl rfl (fun h => ?_) (fun h => ?_)))
 ·refine zb (zq (zE rfl (zA (zi (zq (zI (zc (za rfl (zd rfl ?_)))))))))
  obtain ⟨b, off, c, rfl, hg, hb, hc⟩ := (hm.kept H).atS (i := (i : Int)) (k := i) rfl (by omega)
  refine za rfl (zM el25 rfl rfl (by omega) (by omega) (za rfl (z8 sh62 rfl hg hc (za rfl (zC H zf62 (by omega) (fun b10 s6 H => ?_))))))
  refine za rfl (zm rfl (za rfl (zD (vs := [.int _ _, .int _ _, .bool _, .slice _ _ _, .bool _, .slice _ _ _, .bool _, .slice _ _ _, .bool _, .slice _ _ _]) H sz62 rfl rfl rfl rfl rfl (by omega) (fun s7 H => ?_))))
  refine zb ?_
  rcases hfe : yL (ofM E) (may.getD i default).w with _ | v
  ·refine cw_draw [⟨0, 0, .light, [2, 3, 5]⟩, ⟨1, 0, .light, [0, 3, 5]⟩, ⟨2, 2, .light, [0, 3, 5]⟩, ⟨3, 0, .light, [0, 2, 5]⟩, ⟨4, 0, .light, [0, 2, 3]⟩, ⟨5, 16, .light, [0, 2, 3]⟩, ⟨7, 0, .light, [0, 2, 3, 5]⟩, ⟨6, 56, .fresh, [0, 2]⟩, ⟨8, 128, .fresh, [0, 2, 3, 5]⟩, ⟨9, 504, .whole, [0, 2]⟩, ⟨10, 1023, .whole, []⟩] (by kernel_rfl) (by kernel_rfl) (zy rfl rfl sh220 rfl H.own1 (by exact H.lim1 (by omega)) rfl (ze rfl rfl (zf xW rfl ⟨rfl, (zy rfl rfl y1 rfl H.own0 (by exact H.lim0 (by omega)) rfl (zy rfl rfl sh220 rfl H.own1 (by exact H.lim1 (by omega)) rfl (ze rfl rfl (zf xW rfl ⟨rfl, (zy rfl rfl y1 rfl H.own0 (by exact H.lim0 (by omega)) rfl (ze rfl rfl (zd rfl ⟨rfl, (draw_fresh rfl rfl (op_lookN0 un220 un23 zv22 rfl rfl H.own2 hfe ?_))⟩)))⟩))))⟩)))
   have Hn := (Fine.fresh H.fine).hl
   refine draw_fresh rfl rfl (ya (c := [.int _ _]) Hn sl22 rfl rfl (by have hmo := H.most; (try simp only at hmo); show _ + _ < _; (try simp only); omega) (fun b39 s39 Hc => ?_))
   have H := H.call (HL.wider H.fine H.fine.wfb (fun _ h => h) Hc)
   clear Hc Hn
   simp only [List.cons_append, List.nil_append] at H
   refine dr_appendOwn (D := []) (fr := [b8, b10]) rfl rfl rfl H (by simp) (by intro p hp; simp only [List.mem_cons, List.not_mem_nil, or_false] at hp; rcases hp with rfl | rfl; { exact H.lt2 }; { exact H.lt1 }) .nil sl22 xO rfl rfl rfl (yH H.own0 rfl) (by decide) rfl rfl (by decide) (by omega) (fun b40 s40 H => ?_)
   have H00 := H
   refine zU rfl rfl (op_updV [_, _, _, _] (y := .slice (some ⟨b40, 0, none⟩) (0 + 1) (2 * (0 + 1) + 1)) H un220 un23 rfl rfl rfl (by omega) (fun s41 H => ?_))
   have H := HL.back H00 H
   clear H00
   simp only [List.cons_append, List.nil_append] at H
   have hput : putV (ofM E) (may.getD i default).w (.slice (some ⟨b40, 0, none⟩) (0 + 1) (2 * (0 + 1) + 1)) = ofM (E ++ [((may.getD i default).w, b40, [i])]) := ofM_put0 hfe (b40, [i])
   rw [hput] at H
   have H := of_close0 (l := [i]) (w := (may.getD i default).w) rfl H
   refine z2 (zP (zi (zv (za rfl (zT rfl rfl (by unfold zQ; omega) (za rfl (zd rfl (zb (zN ?_)))))))))
   exact ⟨may.length - (i + 1), by omega, _, i + 1, _, yd ⟨rfl, rfl, rfl, rfl, rfl, rfl, trivial⟩, H.up (by omega), hok.add0 (by omega) rfl, by omega, rfl⟩
  refine cw_draw [⟨0, 0, .light, [2, 3, 5]⟩, ⟨1, 0, .light, [0, 3, 5]⟩, ⟨2, 2, .light, [0, 3, 5]⟩, ⟨3, 0, .light, [0, 2, 5]⟩, ⟨4, 0, .light, [0, 2, 3]⟩, ⟨5, 16, .light, [0, 2, 3]⟩, ⟨7, 0, .light, [0, 2, 3, 5]⟩, ⟨6, 56, .fresh, [0, 2]⟩, ⟨8, 128, .fresh, [0, 2, 3, 5]⟩, ⟨9, 504, .whole, [0, 2]⟩, ⟨10, 1023, .whole, []⟩] (by kernel_rfl) (by kernel_rfl) (zy rfl rfl sh220 rfl H.own1 (by exact H.lim1 (by omega)) rfl (ze rfl rfl (zf xW rfl ⟨rfl, (zy rfl rfl y1 rfl H.own0 (by exact H.lim0 (by omega)) rfl (zy rfl rfl sh220 rfl H.own1 (by exact H.lim1 (by omega)) rfl (ze rfl rfl (zf xW rfl ⟨rfl, (zy rfl rfl y1 rfl H.own0 (by exact H.lim0 (by omega)) rfl (ze rfl rfl (zd rfl ⟨rfl, (draw_fresh rfl rfl (op_lookV0 (v := v) un220 un23 rfl rfl H.own2 hfe ?_))⟩)))⟩))))⟩)))
  obtain ⟨A, e, B, rfl, hew, rfl, hset⟩ := ofM_find hfe
  have Hn := (Fine.fresh H.fine).hl
  refine draw_fresh rfl rfl (ya (c := [.int _ _]) Hn sl22 rfl rfl (by have hmo := H.most; (try simp only at hmo); show _ + _ < _; (try simp only); omega) (fun b39 s39 Hc => ?_))
  have H := H.call (HL.wider H.fine H.fine.wfb (fun _ h => h) Hc)
  clear Hc Hn
  simp only [List.cons_append, List.nil_append] at H
  have hdist := H.dist
  have hl2 := H.lt2
  have hl1 := H.lt1
  have H := of_open H
  have hlen := (hok _ (List.mem_append_right A (List.mem_cons_self (a := e) (l := B)))).1
  refine dr_appendOwn (D := [_]) (fr := [b8, b10]) rfl rfl rfl H ?_ (by intro p hp; simp only [List.mem_cons, List.not_mem_nil, or_false] at hp; rcases hp with rfl | rfl; { exact hl2 }; { exact hl1 }) (ofOwn e) sl22 xO rfl rfl rfl (yH (H.own (b39, .cells [.int .i64 (i : Int)] 3) (by simp)).1 rfl) (by decide) rfl rfl (by omega) (by omega) (fun b40 s40 H => ?_)
  ·have hd := H.dist
   intro q hq
   rw [List.mem_singleton] at hq
   subst hq
   simp only [List.singleton_append, List.pairwise_cons, List.mem_cons] at hd
   simp only [List.mem_cons, List.not_mem_nil, or_false, not_or]
   exact ⟨hd.1 (b8, _) (.inr (.inr (.inl rfl))), hd.1 (b10, _) (.inr (.inl rfl))⟩
  have H00 := H
  refine zU rfl rfl (op_updV [_, _, _, _] (y := .slice (some ⟨b40, 0, none⟩) (e.2.2.length + 1) (2 * (e.2.2.length + 1) + 1)) H un220 un23 rfl rfl rfl (by omega) (fun s41 H => ?_))
  have H := HL.back H00 H
  clear H00
  simp only [List.cons_append, List.nil_append] at H
  have hput : putV (ofM (A ++ e :: B)) (may.getD i default).w (.slice (some ⟨b40, 0, none⟩) (e.2.2.length + 1) (2 * (e.2.2.length + 1) + 1)) = ofM (A ++ ((may.getD i default).w, b40, e.2.2 ++ [i]) :: B) := by
   rw [← hset]
   simp only [putV, hfe, ofV, List.length_append, List.length_singleton]
  rw [hput] at H
  have H := of_close1 (w := (may.getD i default).w) (l := e.2.2 ++ [i]) (by simp [idxC]) H
  refine z2 (zP (zi (zv (za rfl (zT rfl rfl (by unfold zQ; omega) (za rfl (zd rfl (zb (zN ?_)))))))))
  exact ⟨may.length - (i + 1), by omega, _, i + 1, _, yd ⟨rfl, rfl, rfl, rfl, rfl, rfl, trivial⟩, H.up (by omega), hok.add1 (by omega) rfl hew, by omega, rfl⟩
 refine zb (zq (zx rfl (yn (zX (yh (ye (zi (zc (za rfl (op_newMap H (by omega) (fun b42 s93 H => ?_)))))))))))
 refine za rfl (zC H zf221 (by omega) (fun b11 s8 H => ?_))
 refine za rfl (zD (vs := [.map _]) H sz221 rfl rfl rfl rfl rfl (by omega) (fun s9 H => ?_))
 refine zb (zc (za rfl (zC H zf159 (by omega) (fun b12 s10 H => ?_))))
 refine zb (zc (za rfl (op_makeFunc (za rfl (zD (vs := [_]) H sz159 rfl rfl rfl rfl rfl (by omega) (fun s11 H => ?_))))))
 refine zb (zc (za rfl (zj sh159 rfl H.own0 rfl (za rfl (op_assignF rfl (zb (zF (zt (z6 (⟨b12, b11, b42, b8, b23, b5, b13, b2, Ef, E, rfl, H.up (by omega), ?_, hbm⟩))))))))))
 have hi2 : i = may.length := by omega
 rw [← hi2]
 exact hok
end Go.Proofs.YtdejleegamcioaaGreat
namespace Go.Proofs.YtdejleegamcioaaGreat
open Go Go.M
def bV (sp sm : Int) : Value := .agg ⟨[.int .i64 sp, .int .i64 sm]⟩
abbrev KnE := List (Int × Int × Int)
def knM (K : KnE) : yV := K.map fun e => (e.1, bV e.2.1 e.2.2)
def GoodK (K : KnE) (q : Int) : Prop := ∃ sp sm, (q, sp, sm) ∈ K ∧ 0 ≤ sm
def BestOK (may : List Sp) (K : KnE) (S sp sm : Int) : Prop :=
 (sp = -1 ∧ sm = -1) ∨ (sp = -1 ∧ sm = 0 ∧ pcN S.toNat = 1) ∨
 (∃ i : Nat, i < may.length ∧ sp = (i : Int) ∧ 0 ≤ sm ∧ sm ≤ 6 * ((pcN S.toNat : Int) - 1) ∧ (may.getD i default).w = S ∧ GoodK K (may.getD i default).p ∧ GoodK K (zB S (may.getD i default).p))
def KOK (may : List Sp) (K : KnE) : Prop := (∀ e ∈ K, BestOK may K e.1 e.2.1 e.2.2) ∧ (K.map (·.1)).Nodup
theorem GoodK.mono {K X : KnE} {q : Int} (h : GoodK K q) : GoodK (K ++ X) q := let ⟨a, b, h1, h2⟩ := h; ⟨a, b, List.mem_append_left _ h1, h2⟩
theorem BestOK.mono {may : List Sp} {K X : KnE} {S sp sm : Int} (h : BestOK may K S sp sm) : BestOK may (K ++ X) S sp sm := by
 rcases h with h | h | ⟨i, h1, h2, h3, h4, h5, h6, h7⟩
 ·exact .inl h
 ·exact .inr (.inl h)
 ·exact .inr (.inr ⟨i, h1, h2, h3, h4, h5, h6.mono, h7.mono⟩)
theorem KOK.add {may : List Sp} {K : KnE} (h : KOK may K) {S sp sm : Int} (hb : BestOK may K S sp sm) (hne : ∀ e ∈ K, e.1 ≠ S) : KOK may (K ++ [(S, sp, sm)]) := ⟨fun e he => by
 rcases List.mem_append.mp he with he | he
 ·exact (h.1 e he).mono
 ·rw [List.mem_singleton] at he; subst he; exact hb.mono, by
 rw [List.map_append, List.nodup_append]
 refine ⟨h.2, by simp, fun a ha b hb2 e => ?_⟩
 obtain ⟨x, hx, rfl⟩ := List.mem_map.mp ha
 simp only [List.map_cons, List.map_nil, List.mem_singleton] at hb2
 exact hne x hx (e.trans hb2)⟩
theorem KOK.one {may : List Sp} {K : KnE} (h : KOK may K) {S a b c d : Int} (h1 : (S, a, b) ∈ K) (h2 : (S, c, d) ∈ K) : a = c ∧ b = d := by
 have : ∀ (K : KnE), (K.map (·.1)).Nodup → (S, a, b) ∈ K → (S, c, d) ∈ K → a = c ∧ b = d := by
  intro K
  induction K with
  | nil => intro _ h; cases h
  | cons x K ih =>
   intro hn g1 g2
   rw [List.map_cons, List.nodup_cons] at hn
   rcases List.mem_cons.mp g1 with e1 | g1
   ·rcases List.mem_cons.mp g2 with e2 | g2
    ·have := e1.trans e2.symm; simp only [Prod.mk.injEq, true_and] at this; exact this
    ·exact absurd (List.mem_map.mpr ⟨_, g2, by rw [← e1]⟩) hn.1
   ·rcases List.mem_cons.mp g2 with e2 | g2
    ·exact absurd (List.mem_map.mpr ⟨_, g1, by rw [← e2]⟩) hn.1
    ·exact ih hn.2 g1 g2
 exact this K h.2 h1 h2
theorem BestOK.range {may : List Sp} {K : KnE} {S sp sm : Int} (h : BestOK may K S sp sm) (h0 : 0 < S) (h1 : S < 64) : -1 ≤ sm ∧ sm ≤ 6 * ((pcN S.toNat : Int) - 1) ∧ (sm < 0 → sp = -1 ∧ sm = -1) := by
 have hp := pc_one (w := S.toNat) (by omega) (by omega)
 rcases h with ⟨h1, h2⟩ | ⟨h1, h2, h3⟩ | ⟨i, h1, h2, h3, h4, _⟩ <;> omega
theorem knM_find {K : KnE} {S : Int} {v : Value} (h : yL (knM K) S = some v) : ∃ sp sm, (S, sp, sm) ∈ K ∧ v = bV sp sm := by
 have := findV_mem h
 obtain ⟨e, he, h2⟩ := List.mem_map.mp this
 obtain ⟨a, b, c⟩ := e
 simp only [Prod.mk.injEq] at h2
 obtain ⟨rfl, rfl⟩ := h2
 exact ⟨b, c, he, rfl⟩
theorem knM_no {K : KnE} {S : Int} (h : ∀ e ∈ K, e.1 ≠ S) : yL (knM K) S = none := by
 cases hf : yL (knM K) S with
 | none => rfl
 | some v =>
  obtain ⟨sp, sm, h1, _⟩ := knM_find hf
  exact absurd rfl (h _ h1)
theorem knM_none {K : KnE} {S : Int} (h : yL (knM K) S = none) : ∀ e ∈ K, e.1 ≠ S := by
 induction K with
 | nil => intro e he; cases he
 | cons x K ih =>
  simp only [knM, List.map_cons, yL] at h
  split at h
  ·cases h
  ·next hk =>
   intro e he
   rcases List.mem_cons.mp he with rfl | he
   ·exact hk
   ·exact ih h e he
theorem knM_put {K : KnE} {S sp sm : Int} (h : ∀ e ∈ K, e.1 ≠ S) : putV (knM K) S (bV sp sm) = knM (K ++ [(S, sp, sm)]) := by
 unfold putV
 rw [knM_no h]
 simp [knM]
def firmB (Ef : yV) (S : Int) : Bool := match yL Ef S with
 | some (.bool b) => b
 | _ => false
theorem firm_get {Ef : yV} (h : BoolM Ef) (S : Int) : (yL Ef S).getD (.bool false) = .bool (firmB Ef S) := by
 unfold firmB
 cases hf : yL Ef S with
 | none => rfl
 | some v =>
  obtain ⟨b, hb⟩ := h _ (findV_mem hf)
  simp only at hb
  subst hb
  rfl
section
variable {P : Program} {I : zJ} {F : FF} {s : St} {Q : FF → St → Prop} {d : Option Tmp} {ty : TypeId} {pos : String} {af : Array Edge} {g : Option (Nat × Bool)}
theorem op_lookD {t kt et : TypeId} {m k : Operand} {r : Nat} {E : yV} {x : Int} {z v : Value} (hu : P.underlying t = some (.map kt et)) (hk : P.underlying kt = some (.int .i64)) (hz : zeroV P et = some z) (hm : zn F m = .map (some r)) (hx : zn F k = .int .i64 x) (hg : s.get r = some (yG E)) (hf : (yL E x).getD z = v)
  (h : Q (upd F d v) s) : OpW P I ⟨d, .lookup t m k false, ty, pos, af, g⟩ F s Q := by
 cases hv : yL E x with
 | none => rw [hv] at hf; exact op_lookN0 hu hk hz hm hx hg hv (by rw [Option.getD_none] at hf; rw [hf]; exact h)
 | some y => rw [hv] at hf; exact op_lookV0 hu hk hm hx hg hv (by rw [Option.getD_some] at hf; rw [hf]; exact h)
theorem end_ct {Post : Value → St → Prop} {t t2 : Nat} {ty : TypeId} {x : Value} {b off n : Nat} {c l : List Value} {e : TypeId} (hs : z1 P ty = some (some n)) (hx : F t = .pointer (some ⟨b, off, none⟩)) (hg : s.get b = some (.cells c e)) (hc : xd n (xy off c) = some l)
  (h2 : F t2 = x) (h : Post (.tuple ⟨[.agg ⟨l⟩, x]⟩) s) : endQ P [.cell t ty, .tmp t2] Post F s := by
 simp only [endQ, xS, loadN_of hs hx hg hc, h2]
 exact h
end
abbrev CLO (kb fb ob bb mb : Nat) : Value := Value.func (.func 134) ⟨[]⟩ ⟨[ptr kb, ptr fb, ptr ob, ptr bb, ptr mb]⟩
structure BdSt (s : St) (kb km fb fm ob om bb mb : Nat) (vm : Value) (may : List Sp) (Ef : yV) (E : OfE) (K : KnE) : Prop where
 gK : s.get kb = some (.cells [.map (some km)] 221)
 lK : kb < s.next
 gF : s.get fb = some (.cells [.map (some fm)] 164)
 lF : fb < s.next
 gFm : s.get fm = some (yG Ef)
 lFm : fm < s.next
 nFm : fm ≠ km
 gO : s.get ob = some (.cells [.map (some om)] 220)
 lO : ob < s.next
 gOm : s.get om = some (yG (ofM E))
 lOm : om < s.next
 nOm : om ≠ km
 gB : s.get bb = some (.cells [CLO kb fb ob bb mb] 159)
 lB : bb < s.next
 gM : s.get mb = some (.cells [vm] 25)
 lM : mb < s.next
 gR : s.get km = some (yG (knM K))
 lR : km < s.next
 mR : s.may km = true
 sM : Sl s 62 10 vm (may.map Sp.cells)
 oB : ∀ e ∈ E, s.get e.2.1 = some (.cells (idxC e.2.2) 3) ∧ e.2.1 < s.next
section
variable {s s' : St} {kb km fb fm ob om bb mb : Nat} {vm : Value} {may : List Sp} {Ef : yV} {E : OfE} {K K' : KnE} {L : Hp'} {n : Nat}
theorem oldM {E0 : yV} (H : HL [km] s s' L n) (hr : s.get km = some (yG E0)) {b : Nat} {c : List Value} {e : TypeId} (hb : b < s.next) (hg : s.get b = some (.cells c e)) : s'.get b = some (.cells c e) := by
 rw [H.kept b hb (by
  intro h
  rw [List.mem_singleton] at h
  subst h
  rw [hr] at hg
  cases hg)]
 exact hg
theorem oldMm (H : HL [km] s s' L n) {b : Nat} (hb : b < s.next) (hne : b ≠ km) : s'.get b = s.get b := H.kept b hb (by simpa using hne)
theorem Sl.keptM {E0 : yV} {e : TypeId} {sz : Nat} {v : Value} {es : List (List Value)} (h : Sl s e sz v es) (H : HL [km] s s' L n) (hr : s.get km = some (yG E0)) : Sl s' e sz v es := by
 cases h with
 | nil c hv hl => exact .nil c hv hl
 | block b off cap c hv hg hb hcap hc => exact .block b off cap c hv (oldM H hr hb hg) (by have := H.le; omega) hcap hc
theorem BdSt.later (h : BdSt s kb km fb fm ob om bb mb vm may Ef E K) (H : HL [km] s s' L n) (hE : (km, yG (knM K')) ∈ L) : BdSt s' kb km fb fm ob om bb mb vm may Ef E K' := by
 have hle := H.le
 have ho := H.own _ hE
 exact ⟨oldM H h.gR h.lK h.gK, by have := h.lK; omega, oldM H h.gR h.lF h.gF, by have := h.lF; omega, (oldMm H h.lFm h.nFm).trans h.gFm, by have := h.lFm; omega, h.nFm,
  oldM H h.gR h.lO h.gO, by have := h.lO; omega, (oldMm H h.lOm h.nOm).trans h.gOm, by have := h.lOm; omega, h.nOm, oldM H h.gR h.lB h.gB, by have := h.lB; omega, oldM H h.gR h.lM h.gM, by have := h.lM; omega, ho.1, ho.2.1, ho.2.2.1, h.sM.keptM H h.gR,
  fun e he => ⟨oldM H h.gR (h.oB e he).2 (h.oB e he).1, by have := (h.oB e he).2; omega⟩⟩
theorem BdSt.hl (h : BdSt s kb km fb fm ob om bb mb vm may Ef E K) (hf : Fine s) : HL [km] s s [(km, yG (knM K))] 0 :=
 ⟨rfl, rfl, hf.wfb, hf.wfp, Nat.le_refl _, Nat.le_refl _, fun p hp => by
  rw [List.mem_singleton] at hp
  subst hp
  exact ⟨h.gR, h.lR, h.mR, .inr (by simp)⟩, by simp, fun _ _ _ => rfl⟩
theorem BdSt.narrow (h : BdSt s kb km fb fm ob om bb mb vm may Ef E K) {X : List Nat} (hX : km ∉ X) : BdSt { s with prot := X ++ s.prot } kb km fb fm ob om bb mb vm may Ef E K := by
 refine ⟨h.gK, h.lK, h.gF, h.lF, h.gFm, h.lFm, h.nFm, h.gO, h.lO, h.gOm, h.lOm, h.nOm, h.gB, h.lB, h.gM, h.lM, h.gR, h.lR, ?_, h.sM.heap rfl rfl, h.oB⟩
 have hm := h.mR
 simp only [St.may, Bool.and_eq_true, Bool.not_eq_true', Bool.eq_false_iff, ne_eq, List.any_eq_true, not_exists, not_and] at hm ⊢
 refine ⟨hm.1, fun p hp he => ?_⟩
 rcases List.mem_append.mp hp with hp | hp
 ·exact hX ((Nat.eq_of_beq_eq_true he) ▸ hp)
 ·exact hm.2 p hp he
theorem BdSt.idx (h : BdSt s kb km fb fm ob om bb mb vm may Ef E K) {m : Nat} (hok : OfOK may m E) (S : Int) : ∃ (a : Option Addr) (c : Nat) (l : List Int), (yL (ofM E) S).getD (.slice none 0 0) = .slice a l.length c ∧ Sl s 3 1 (.slice a l.length c) (l.map dc) ∧ l.length ≤ m ∧ ∀ x ∈ l, ∃ j : Nat, x = (j : Int) ∧ j < may.length ∧ (may.getD j default).w = S := by
 cases hf : yL (ofM E) S with
 | none => exact ⟨none, 0, [], rfl, .nil 0 rfl rfl, by simp, fun x hx => by cases hx⟩
 | some v =>
  obtain ⟨e, he, h1, h2⟩ := ofM_mem hf
  subst h2
  obtain ⟨g1, g2⟩ := h.oB e he
  obtain ⟨o1, o2⟩ := hok e he
  refine ⟨some ⟨e.2.1, 0, none⟩, 2 * e.2.2.length + 1, e.2.2.map (fun i : Nat => (i : Int)), by simp [ofV], ?_, by simpa using o1, fun x hx => ?_⟩
  ·have hc : idxC e.2.2 = z7 (e.2.2.map (fun i : Nat => (i : Int))) := by simp [idxC, z7]
   rw [hc] at g1
   refine .block e.2.1 0 (2 * e.2.2.length + 1) _ (by simp) g1 g2 (by simp; omega) fun k hk => ?_
   simp only [List.length_map] at hk
   rw [Nat.zero_add, xX, qi]
   have hlt : k < e.2.2.length := hk
   simp only [z7, List.map_map, Nat.mul_one, List.length_drop, List.length_map]
   rw [if_pos (by omega)]
   simp only [dc, Function.comp_def]
   congr 1
   rw [List.getD_eq_getElem?_getD, List.getElem?_map, List.getElem?_eq_getElem hlt]
   rw [List.drop_eq_getElem_cons (by simpa using hlt)]
   simp
  ·obtain ⟨j, hj, rfl⟩ := List.mem_map.mp hx
   obtain ⟨q1, q2⟩ := o2 j hj
   exact ⟨j, rfl, q1, q2.trans h1⟩
end
end Go.Proofs.YtdejleegamcioaaGreat
