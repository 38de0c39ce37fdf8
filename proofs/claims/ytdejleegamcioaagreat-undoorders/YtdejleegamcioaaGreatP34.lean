/- order.Find: what it keeps; the keys of its set. -/
/- order.Find. -/
/- A set that can be taken apart into single pieces needs no more splits than that; an append to an empty row. -/
/- Levels with one thing changed. -/
/- Lists out of which one is taken. -/
import Derived.Test.YtdejleegamcioaaGreatP33
import Derived.Test.YtdejleegamcioaaGreatP30
import Derived.Test.YtdejleegamcioaaGreatP28
namespace Go.Proofs.YtdejleegamcioaaGreat
open Go Go.M
theorem _root_.Go.M.HL.front {W : List Nat} {s0 s : St} {A B : Hp'} {p : Nat × MObj} {n : Nat} (H : HL W s0 s (A ++ p :: B) n) : HL W s0 s (p :: (A ++ B)) n := HL.perm H List.perm_middle
structure FndR (R : Hp') (kb km fb fm ob om cb mb : Nat) (vm : Value) (Ef : yV) (E : OfE) : Prop where
 mK : (kb, MObj.cells [.map (some km)] 221) ∈ R
 mF : (fb, MObj.cells [.map (some fm)] 164) ∈ R
 mFm : (fm, yG Ef) ∈ R
 mO : (ob, MObj.cells [.map (some om)] 220) ∈ R
 mOm : (om, yG (ofM E)) ∈ R
 mB : (cb, MObj.cells [CLO kb fb ob cb mb] 159) ∈ R
 mM : (mb, MObj.cells [vm] 25) ∈ R
 mE : ∀ e ∈ E, (e.2.1, MObj.cells (idxC e.2.2) 3) ∈ R
 nF : fm ≠ km
 nO : om ≠ km
section
variable {W : List Nat} {s0 s : St} {n kb km fb fm ob om cb mb b11 : Nat} {c11 : MObj} {p8 p4 : Nat × MObj} {vm : Value} {Ef : yV} {E : OfE} {L R : Hp'} {may : List Sp} {K : KnE}
theorem find_start (H : HL W s0 s ((b11, c11) :: (cb, MObj.cells [CLO kb fb ob cb mb] 159) :: (kb, MObj.cells [.map (some km)] 221) :: (km, yG []) :: (ob, MObj.cells [.map (some om)] 220) :: (om, yG (ofM E)) :: (fb, MObj.cells [.map (some fm)] 164) :: (fm, yG Ef) :: (mb, MObj.cells [vm] 25) :: (ofB E ++ [p8, p4])) n) :
  ∃ R, HL W s0 s ((km, yG (knM [])) :: (b11, c11) :: p8 :: R) n ∧ FndR R kb km fb fm ob om cb mb vm Ef E ∧ p4 ∈ R := by
 have hd := H.dist
 simp only [List.pairwise_cons, List.mem_cons, forall_eq_or_imp] at hd
 obtain ⟨_, _, _, h4, _⟩ := hd
 have h1 : HL W s0 s (p8 :: ((b11, c11) :: (cb, MObj.cells [CLO kb fb ob cb mb] 159) :: (kb, MObj.cells [.map (some km)] 221) :: (km, yG []) :: (ob, MObj.cells [.map (some om)] 220) :: (om, yG (ofM E)) :: (fb, MObj.cells [.map (some fm)] 164) :: (fm, yG Ef) :: (mb, MObj.cells [vm] 25) :: ofB E ++ [p4])) n :=
  HL.front (A := (b11, c11) :: (cb, MObj.cells [CLO kb fb ob cb mb] 159) :: (kb, MObj.cells [.map (some km)] 221) :: (km, yG []) :: (ob, MObj.cells [.map (some om)] 220) :: (om, yG (ofM E)) :: (fb, MObj.cells [.map (some fm)] 164) :: (fm, yG Ef) :: (mb, MObj.cells [vm] 25) :: ofB E) (B := [p4]) H
 have h2 := HL.front (A := [p8]) h1
 have h3 := HL.front (A := [_, _, _, _]) h2
 refine ⟨_, h3, ⟨by simp, by simp, by simp, by simp, by simp, by simp, by simp, fun e he => ?_, fun e => h4.2.2.2.1 e.symm, fun e => h4.2.1 e.symm⟩, by simp⟩
 have : (e.2.1, MObj.cells (idxC e.2.2) 3) ∈ ofB E := List.mem_map.mpr ⟨e, he, rfl⟩
 simp [this]
theorem FndR.st (h : FndR R kb km fb fm ob om cb mb vm Ef E) (H : HL W s0 s L n) (hs : ∀ p ∈ R, p ∈ L) (hk : (km, yG (knM K)) ∈ L) (hM : Sl s 62 10 vm (may.map Sp.cells)) : BdSt s kb km fb fm ob om cb mb vm may Ef E K := by
 have g := fun p hp => H.own p (hs p hp)
 have k := H.own _ hk
 exact ⟨(g _ h.mK).1, (g _ h.mK).2.1, (g _ h.mF).1, (g _ h.mF).2.1, (g _ h.mFm).1, (g _ h.mFm).2.1, h.nF, (g _ h.mO).1, (g _ h.mO).2.1, (g _ h.mOm).1, (g _ h.mOm).2.1, h.nO, (g _ h.mB).1, (g _ h.mB).2.1, (g _ h.mM).1, (g _ h.mM).2.1, k.1, k.2.1, k.2.2.1, hM, fun e he => ⟨(g _ (h.mE e he)).1, (g _ (h.mE e he)).2.1⟩⟩
end
theorem KOK.nil {may : List Sp} : KOK may [] := ⟨fun e he => absurd he List.not_mem_nil, List.nodup_nil⟩
theorem keyL_ents : ∀ (i : Nat) (E : yV), BoolM E → keyL (qb i E) = some (E.map (·.1))
 | i, [], _ => rfl
 | i, e :: E, h => by
  obtain ⟨b, hb⟩ := h e List.mem_cons_self
  have := keyL_ents (i + 1) E (fun x hx => h x (List.mem_cons_of_mem _ hx))
  simp only [qb, hb, keyL, this, List.map_cons]
theorem ents_born : ∀ (i : Nat) (E : yV), (qb i E).map (·.born) = List.range' i E.length
 | i, [] => rfl
 | i, e :: E => by simp only [qb, List.map_cons, ents_born (i + 1) E, List.length_cons, List.range'_succ]
def SetKeys (E : yV) : Prop := (∀ e ∈ E, 0 ≤ e.1 ∧ e.1 < 65536) ∧ (E.map (·.1)).Nodup
theorem setV_keys : ∀ (E : yV) (k : Int) (v : Value), (setV E k v).map (·.1) = E.map (·.1)
 | [], k, v => rfl
 | e :: E, k, v => by
  unfold setV
  split
  ·next h => simp [h]
  ·simp [setV_keys E k v]
theorem find_keys {k : Int} : ∀ {E : yV}, yL E k = none → k ∉ E.map (·.1)
 | [], _ => by simp
 | e :: E, h => by
  unfold yL at h
  split at h
  ·cases h
  ·next hk =>
   simp only [List.map_cons, List.mem_cons, not_or]
   exact ⟨fun e => hk e.symm, find_keys h⟩
theorem SetKeys.put {E : yV} (h : SetKeys E) {k : Int} (h0 : 0 ≤ k) (h1 : k < 65536) (v : Value) : SetKeys (putV E k v) := by
 refine ⟨fun e he => ?_, ?_⟩
 ·rcases putV_mem he with he | rfl
  ·exact h.1 e he
  ·exact ⟨h0, h1⟩
 ·unfold putV
  cases hf : yL E k with
  | none =>
   simp only [List.map_append, List.map_cons, List.map_nil, List.nodup_append]
   refine ⟨h.2, by simp, fun a ha b hb e => ?_⟩
   rw [List.mem_singleton] at hb
   exact find_keys hf (by rw [← hb, ← e]; exact ha)
  | some y => simp only [setV_keys]; exact h.2
theorem putV_len (E : yV) (k : Int) (v : Value) : (putV E k v).length ≤ E.length + 1 := by
 unfold putV
 cases yL E k with
 | none => simp
 | some y => simp only [setV_length]; omega
theorem keysOK_of {E : yV} (hb : BoolM E) (h : SetKeys E) (hl : E.length ≤ 1000000) : keysOK (qb 0 E) E.length (E.map (·.1)) := by
 refine ⟨keyL_ents 0 E hb, by rw [entsV_length]; exact hl, fun k hk => ?_, h.2, fun x hx => ?_, ?_⟩
 ·obtain ⟨e, he, rfl⟩ := List.mem_map.mp hk
  obtain ⟨h0, h1⟩ := h.1 e he
  have hmin : IntKind.i64.min = -9223372036854775808 := by decide
  simp [Lit.wf, hmin]
  omega
 ·have : x.born ∈ (qb 0 E).map (·.born) := List.mem_map.mpr ⟨x, hx, rfl⟩
  rw [ents_born, List.mem_range'] at this
  obtain ⟨i, hi, e⟩ := this
  omega
 ·rw [ents_born]; exact List.nodup_range'
section
variable {I : zJ} {W : List Nat} {s0 s : St} {L : Hp'} {n : Nat}
theorem keys_ok (h80 : I 80 = some keysI) (H : HL W s0 s L n) (b : Nat) (hr : s0.next + n < zh) : ∃ bk s', yE Tryz.prog I 80 #[.map (some b)] s (.func (.func 138) ⟨[]⟩ ⟨[ptr bk]⟩) s' ∧ HL W s0 s' ((bk, .cells [.map (some b)] 164) :: L) (n + 1) := by
 refine ⟨s.next, s.new (.cells [.map (some b)] 164), ⟨0, fun m _ => ?_⟩, HL.new H _ hr⟩
 have hm := H.most
 have hroom : s.room = true := by simp only [St.room]; unfold zh at hr; exact Nat.ble_eq_true_of_le (by omega)
 simp only [callM, yQ, h80, keysI, hroom]
theorem sorted_ok (h79 : I 79 = some xa) {bk b : Nat} {E : yV} {e : TypeId} (H : HL W s0 s L n) (hk : s.get bk = some (.cells [.map (some b)] e)) (hg : s.get b = some (yG E)) (hb : BoolM E) (hs : SetKeys E) (hl : E.length ≤ 1000000) (hr : s0.next + n < zh) : ∃ (sl : Slc) (s' : St), yE Tryz.prog I 79 #[.func (.func 138) ⟨[]⟩ ⟨[ptr bk]⟩] s sl.v s' ∧ HL W s0 s' L (n + 1) := by
 have hm := H.most
 have hroom : s.room = true := by simp only [St.room]; unfold zh at hr; exact Nat.ble_eq_true_of_le (by omega)
 have hs := sortedI_of (args := #[.func (.func 138) ⟨[]⟩ ⟨[ptr bk]⟩]) rfl hk hg (keysOK_of hb hs hl) hroom
 by_cases hn : E.map (·.1) = []
 ·rw [if_pos hn] at hs
  exact ⟨⟨none, 0, 0⟩, s, ⟨0, fun m _ => by simp only [callM, yQ, h79, hs]; rfl⟩, H.up (by omega)⟩
 ·rw [if_neg hn] at hs
  exact ⟨⟨some ⟨s.next, 0, none⟩, _, _⟩, _, ⟨0, fun m _ => by simp only [callM, yQ, h79, hs]; rfl⟩, (HL.new H _ hr).drop0⟩
end
end Go.Proofs.YtdejleegamcioaaGreat
namespace Go.Proofs.YtdejleegamcioaaGreat
open Go Go.M
theorem bf89 : buildF Tryz.prog 89 = some ([.slice none 0 0], [(0, 1)]) := by kernel_rfl
theorem fb37 : yw Tryz.f37 (Tryz.f37.body.getD .skip) 3 = true := by kernel_rfl
theorem fc77 : yk Tryz.prog 77 = true := by kernel_rfl
theorem fc78 : yk Tryz.prog 78 = true := by kernel_rfl
theorem fc79 : yk Tryz.prog 79 = true := by kernel_rfl
theorem fc80 : yk Tryz.prog 80 = true := by kernel_rfl
theorem sh89 : z1 Tryz.prog 89 = some (some 1) := by kernel_rfl
theorem sz89 : yR Tryz.prog 89 = some 1 := by kernel_rfl
theorem zf89 : xQ Tryz.prog 89 = some [.slice none 0 0] := by kernel_rfl
theorem own_n {e : TypeId} {sz m n : Nat} {D : Hp'} {so : Slc} {c : List Value} (h : Own e sz D so.v c m) (hn : m = 0 + n) : so.n = n := by
 obtain ⟨a, k, cc⟩ := so
 generalize hv : (Slc.v ⟨a, k, cc⟩) = v at h
 cases h with
 | nil => simp only [Slc.v, Value.slice.injEq] at hv; simp only; omega
 | block b cap c len h1 h2 => simp only [Slc.v, Value.slice.injEq] at hv; simp only; omega
section
variable {W : List Nat} {s0 s : St} {n kb km fb fm ob om cb mb b11 b19 b20 b4 cm : Nat} {am : Option Addr} {c19 : MObj} {p12 p8 : Nat × MObj} {Ef : yV} {E : OfE} {R : Hp'} {may : List Sp} {K : KnE} {vm : Value} {o4 o20 o11 ok2 : MObj}
theorem find_dis (H : HL [] s0 s ((b19, c19) :: (b20, o20) :: p12 :: (km, ok2) :: (b11, o11) :: p8 :: R) n) (mK : (kb, MObj.cells [.map (some km)] 221) ∈ R) (m4 : (b4, o4) ∈ R) (hm : Sl s0 62 10 (.slice am may.length cm) (may.map Sp.cells)) : ∀ r ∈ [kb, km, b11, b4, b20] ++ blkV am, r ≠ b19 := by
 have hd := H.dist
 rw [List.pairwise_cons] at hd
 have h1 := hd.1
 have h0 : s0.next ≤ b19 := by
  rcases (H.own _ List.mem_cons_self).2.2.2 with h | h
  ·exact h
  ·cases h
 intro r hr e
 subst e
 rcases List.mem_append.mp hr with hr | hr
 ·simp only [List.mem_cons, List.not_mem_nil, or_false] at hr
  rcases hr with rfl | rfl | rfl | rfl | rfl
  ·exact h1 (_, MObj.cells [.map (some km)] 221) (by simp only [List.mem_cons]; exact .inr (.inr (.inr (.inr (.inr mK))))) rfl
  ·exact h1 (_, ok2) (by simp) rfl
  ·exact h1 (_, o11) (by simp) rfl
  ·exact h1 (_, o4) (by simp only [List.mem_cons]; exact .inr (.inr (.inr (.inr (.inr m4))))) rfl
  ·exact h1 (_, o20) (by simp) rfl
 ·cases ha : am with
  | none => rw [ha] at hr; simp [blkV] at hr
  | some a =>
   rw [ha] at hr hm
   simp only [blkV, List.mem_singleton] at hr
   have := hm.ltB rfl
   omega
theorem find_ad (H : HL [] s0 s ((b19, .cells [.slice none 0 0] 25) :: (b20, .cells [ADD b11 b19 b4 b20] 103) :: p12 :: (km, yG (knM K)) :: (b11, .cells [CLO kb fb ob cb mb] 159) :: p8 :: R) n) (hR : FndR R kb km fb fm ob om cb mb vm Ef E) (m4 : (b4, MObj.cells [.slice am may.length cm] 25) ∈ R) (hm : Sl s0 62 10 (.slice am may.length cm) (may.map Sp.cells)) (hdis : ∀ r ∈ [kb, km, b11, b4, b20] ++ blkV am, r ≠ b19) :
  AdSt s kb km fb ob cb mb b11 b19 b4 b20 am cm may K [] ⟨none, 0, 0⟩ [] := by
 have g := fun p (hp : p ∈ R) => H.own p (by simp only [List.mem_cons]; exact .inr (.inr (.inr (.inr (.inr (.inr hp))))))
 have k := H.own3
 have k1 := H.own4
 have k2 := H.own1
 exact ⟨(g _ hR.mK).1, (g _ hR.mK).2.1, k, H.lt3, k1, H.lt4, (g _ m4).1, (g _ m4).2.1, k2, H.lt1, hm.kept H,
  fun p hp => by
   rw [List.mem_singleton] at hp
   subst hp
   have := H.own _ List.mem_cons_self
   exact ⟨this.1, this.2.1, this.2.2.1⟩, by simp, .nil, fun r hr hin => by
   simp only [xm, List.map_nil, List.mem_singleton] at hin
   exact hdis r hr hin⟩
theorem find_end {p19 p20 pk p11 : Nat × MObj} {D2 : Hp'} (H : HL W s0 s ((p19 :: D2) ++ (p20 :: p12 :: pk :: p11 :: p8 :: R)) n) : HL W s0 s (p19 :: p12 :: p8 :: D2) n := by
 have h1 : HL W s0 s ((p19 :: D2) ++ [p12, p8]) n := HL.sub H ((List.Sublist.refl _).append (.cons _ (.cons_cons _ (.cons _ (.cons _ (.cons_cons _ (List.nil_sublist _)))))))
 exact HL.perm h1 (List.Perm.cons _ (List.perm_append_comm (l₁ := D2) (l₂ := [p12, p8])))
end
set_option maxHeartbeats 4000000 in
set_option maxRecDepth 10000 in
theorem find_ok {I : zJ} (hI : Plain I) (h80 : I 80 = some keysI) (h79 : I 79 = some xa) {s : St} (hf : Fine s) {w : Int} {vm vs : Value} {may : List Sp} {st : List Int} {T : Nat} (hm : Sl s 62 10 vm (may.map Sp.cells)) (hs : Sl s 23 1 vs (st.map dc)) (hmk : xh may) (hst : ∀ x ∈ st, 1 ≤ x ∧ x ≤ 63) (hml : may.length ≤ 100) (hsl : st.length ≤ 1000) (hw0 : 1 ≤ w) (hw1 : w ≤ 63) (hT : T = bt may.length 6) (hroom : s.next + (30000 + (T + st.length * (T + 10))) ≤ zh) :
  ∃ v' s', yE Tryz.prog I 37 #[.int .i64 w, vm, vs] s v' s' ∧ (∃ (D : Hp') (sx sn : Slc) (sum e : Int), v' = .tuple ⟨[sx.v, .int .i64 sum, .agg ⟨[sn.v]⟩, .int .i64 e]⟩ ∧ HL [] s s' D (30000 + (T + st.length * (T + 10))) ∧ (e = 6 ∨ (e = 0 ∧ ∃ n, sx.n = n ∧ TreeN may w n ∧ n + 1 ≤ pcN w.toNat))) := by
 have H := hf.hl
 obtain ⟨am, lm, cm, rfl, hn⟩ := hm.isSlice
 rw [List.length_map] at hn
 subst hn
 obtain ⟨as_, ls, cs, rfl, hn⟩ := hs.isSlice
 rw [List.length_map] at hn
 subst hn
 have hst2 : ∀ x ∈ st, 1 ≤ x ∧ x ≤ 65535 := fun x hx => by have := hst x hx; omega
 have hpw := pc_six w.toNat
 have hpw1 := pc_one (w := w.toNat) (by omega) (by omega)
 refine zY 3 (hI 37 (by decide) (by decide) (by decide) (by decide)) Tryz.func37 rfl fb37 rfl ?_
 refine zc (za rfl (op_boxS H rfl (by omega) (fun b4 s1 H => ?_)))
 refine za rfl (zk (za rfl (zk (za rfl (zC H zf89 (by omega) (fun b8 s2 H => ?_))))))
 refine za rfl (zk (zb (zq (zc (za rfl (zd rfl (za rfl (zj sh25 rfl H.own1 rfl (za rfl (zp rfl (za rfl (zo rfl fc77 rfl ?_))))))))))))
 obtain ⟨_, s9, hr, rfl, Hc⟩ := fits_ok hI H.fine (hm.kept H) (hs.kept H) hmk hst2 (by omega) (by omega) (by omega) (by omega : w ≤ 65535) (by have := H.most; omega)
 refine ⟨_, _, hr, ?_⟩
 clear hr
 have H := H.call0 Hc
 clear Hc
 refine za rfl (zm rfl (zb (zc (za rfl (zd rfl (za rfl (op_neq rfl rfl (fun h => False.elim (by omega)) (fun h => ?_))))))))
 refine zb (zx rfl (zA (zi (zc (za rfl (zj sh25 rfl H.own1 rfl (za rfl (zp rfl (za rfl (zo rfl fc78 rfl ?_))))))))))
 obtain ⟨_, s9, hr, cb, kb, km, ob, om, fb, fm, mb, Ef, E, rfl, Hc, hok, hbm⟩ := builder_ok hI H.fine (hm.kept H) (hs.kept H) hml hsl (by have := H.most; omega)
 refine ⟨_, _, hr, ?_⟩
 clear hr
 have H := H.call Hc
 clear Hc
 simp only [List.cons_append, List.nil_append] at H
 refine za rfl (zC H zf159 (by omega) (fun b11 s3 H => ?_))
 refine za rfl (zD (vs := [CLO kb fb ob cb mb]) H sz159 rfl rfl rfl rfl rfl (by omega) (fun s90 H => ?_))
 refine zb ?_
 obtain ⟨R, H, hR, hp4⟩ := find_start H
 refine zc (za rfl (zj sh159 rfl H.own1 rfl (za rfl (zd rfl (za rfl (zo rfl fc134 rfl ?_))))))
 obtain ⟨_, s9, hr, K1, sp5, sm5, rfl, Hc, hK1, mK1, X5, eK1, bK1⟩ := build_ok hI hmk hml hml hok hbm 64 w (by omega) (by omega) (by omega) _ [] H.fine (hR.st H (by intro p hp; simp [hp]) (by simp) (hm.kept H)) KOK.nil (by have hmo := H.most; have hbq := bt_le may.length (pc_six (w).toNat); omega)
 refine ⟨_, _, hr, ?_⟩
 clear hr
 have hbq := bt_le may.length (pc_six (w).toNat)
 have H := HL.callW (A := [_]) (L := _ :: _ :: R) H Hc (by intro b hb; rw [List.mem_singleton] at hb; subst hb; exact ⟨_, List.mem_singleton.mpr rfl⟩) (by intro p hp; rw [List.mem_singleton] at hp; subst hp; simp)
 clear Hc
 simp only [List.cons_append, List.nil_append] at H
 have H := H.up (n' := 22050 + T) (by omega)
 clear hbq
 cases can1 : decide (0 ≤ sm5)
 ·refine za rfl (yA rfl (za rfl (zH rfl rfl (za rfl (zH rfl rfl (za rfl (zC H zf162 (by omega) (fun b12 s4 H => ?_))))))))
  refine za rfl (zD (vs := [.int _ _, .int _ _]) H xK rfl rfl rfl rfl rfl (by omega) (fun s5 H => ?_))
  refine za rfl (zw rfl (zb (zq (zc (za rfl (zl rfl (za rfl (op_not rfl (zb (zE rfl (zc (za rfl (op_newMap H (by omega) (fun b40 s93 H => ?_))))))))))))))
  refine za rfl (op_assignM rfl (zb (zq ?_)))
  have H := HL.perm (H.drop1) (List.perm_middle (l₁ := [_, _])).symm
  simp only [List.cons_append, List.nil_append] at H
  refine zc (za rfl (zp rfl (za rfl (yf un31 rfl rfl rfl (za rfl (xV (zb (zI (yP (fun k F s1 => ∃ (G : FF) (i : Nat) (K1 : KnE) (Es : yV), F = lay G [(0, .int .i64 w), (8, ptr b8), (11, ptr b11), (14, .map (some b40)), (41, .slice as_ st.length cs), (42, .int .i64 (st.length : Int)), (43, .int .i64 (i : Int))] ∧ HL [] s s1 ((km, yG (knM K1)) :: (b11, .cells [CLO kb fb ob cb mb] 159) :: (b40, yG Es) :: (b8, .cells [.slice none 0 0] 89) :: R) (22100 + T + i * (T + 10)) ∧ KOK may K1 ∧ BoolM Es ∧ SetKeys Es ∧ Es.length ≤ i ∧ i ≤ st.length ∧ k = st.length - i) ?_ st.length _ _ ?_)))))))))
  rotate_left
  ·exact ⟨_, 0, K1, [], yd ⟨rfl, rfl, rfl, rfl, rfl, rfl, rfl, trivial⟩, H.up (by omega), hK1, (fun e he => by cases he), ⟨(fun e he => by cases he), List.nodup_nil⟩, by simp, by omega, by omega⟩
  rintro k F s1 ⟨G, i, K1, Es, rfl, H, hK1, hbE, hsk, hEl, hi, rfl⟩
  have hT1 : i * (T + 10) ≤ st.length * (T + 10) := Nat.mul_le_mul_right _ hi
  refine zc (za rfl (yq rfl rfl (fun h => ?_) (fun h => ?_)))
  ·refine zb (zq (zE rfl (zA (zi (zq (zI (zc ?_)))))))
   obtain ⟨b, off, c, rfl, hg, hb, hc⟩ := (hs.kept H).atD (i := (i : Int)) (k := i) rfl (by omega)
   have hq := hst (st.getD i 0) (yu (by omega))
   have hT2 : (i + 1) * (T + 10) = i * (T + 10) + (T + 10) := Nat.succ_mul i _
   have hT3 : (i + 1) * (T + 10) ≤ st.length * (T + 10) := Nat.mul_le_mul_right _ (by omega)
   refine za rfl (zM el31 rfl rfl (by omega) (by omega) (za rfl (zj y1 rfl hg hc (za rfl (zm rfl (zb (zc (za rfl (zj sh159 rfl H.own1 rfl (za rfl (zd rfl (za rfl (zo rfl fc134 rfl ?_)))))))))))))
   obtain ⟨_, s9, hr, K2, sp11, sm11, rfl, Hc, hK2, mK2, X11, eK2, bK2⟩ := build_ok hI hmk hml hml hok hbm 64 (st.getD i 0) (by omega) (by omega) (by omega) _ K1 H.fine (hR.st H (by intro p hp; simp [hp]) (by simp) (hm.kept H)) hK1 (by have hmo := H.most; have hbq := bt_le may.length (pc_six ((st.getD i 0)).toNat); omega)
   refine ⟨_, _, hr, ?_⟩
   clear hr
   have hbq := bt_le may.length (pc_six ((st.getD i 0)).toNat)
   have H := HL.callW (A := [_]) (L := _ :: _ :: _ :: R) H Hc (by intro b hb; rw [List.mem_singleton] at hb; subst hb; exact ⟨_, List.mem_singleton.mpr rfl⟩) (by intro p hp; rw [List.mem_singleton] at hp; subst hp; simp)
   clear Hc
   simp only [List.cons_append, List.nil_append] at H
   have H := H.up (n' := 22100 + T + i * (T + 10) + T) (by omega)
   clear hbq
   cases can2 : decide (0 ≤ sm11)
   ·refine za rfl (yA rfl (za rfl (zH rfl rfl (za rfl (zH rfl rfl (za rfl (zC H zf162 (by omega) (fun b17 s6 H => ?_))))))))
    refine za rfl (zD (vs := [.int _ _, .int _ _]) H xK rfl rfl rfl rfl rfl (by omega) (fun s7 H => ?_))
    refine za rfl (zw rfl (zb (zc (za rfl (zl rfl (zb (zx rfl (zA (zP (zi (zv (za rfl (zT rfl rfl (by unfold zQ; omega) (za rfl (zd rfl ?_)))))))))))))))
    refine zb (zN ?_)
    exact ⟨st.length - (i + 1), by omega, _, i + 1, K2, Es, yd ⟨rfl, rfl, rfl, rfl, rfl, rfl, rfl, trivial⟩, H.drop0.up (by omega), hK2, hbE, hsk, by omega, by omega, rfl⟩
   refine za rfl (yA rfl (za rfl (zH rfl rfl (za rfl (zH rfl rfl (za rfl (zC H zf162 (by omega) (fun b17 s8 H => ?_))))))))
   refine za rfl (zD (vs := [.int _ _, .int _ _]) H xK rfl rfl rfl rfl rfl (by omega) (fun s9 H => ?_))
   refine za rfl (zw rfl (zb (zc (za rfl (zl rfl (zb (zE rfl (zv (za rfl (op_moveM rfl (za rfl (zd rfl (za rfl (op_updV [_, _, _] (y := .bool true) H un164 un23 rfl rfl rfl (by omega) (fun s94 H => ?_)))))))))))))))
   simp only [List.cons_append, List.nil_append] at H
   refine zb (zP (zi (zv (za rfl (zT rfl rfl (by unfold zQ; omega) (za rfl (zd rfl (zb (zN ?_)))))))))
   have hpl := putV_len Es (st.getD i 0) (.bool true)
   exact ⟨st.length - (i + 1), by omega, _, i + 1, K2, _, yd ⟨rfl, rfl, rfl, rfl, rfl, rfl, rfl, trivial⟩, H.drop0.up (by omega), hK2, hbE.put _ true, hsk.put (by omega) (by omega) _, by omega, by omega, rfl⟩
  refine zb (zq (zx rfl (yn (zX (yh (ye (zi ?_)))))))
  have H := HL.front (A := [_, _, _]) H
  simp only [List.cons_append, List.nil_append] at H
  have hT1 : i * (T + 10) ≤ st.length * (T + 10) := Nat.mul_le_mul_right _ hi
  refine zc (za rfl (op_moveM rfl (za rfl (zo rfl fc80 rfl ?_))))
  obtain ⟨bk, s9, hr, H⟩ := keys_ok h80 H b40 (by omega)
  refine ⟨_, _, hr, ?_⟩
  clear hr
  refine za rfl (zo rfl fc79 rfl ?_)
  obtain ⟨sl, s9, hr, H⟩ := sorted_ok h79 H H.own0 (H.own (b40, yG Es) (by simp)).1 hbE hsk (by omega) (by omega)
  refine ⟨_, _, hr, ?_⟩
  clear hr
  refine za rfl (yN (c := [.slice _ _ _]) bf89 rfl (za rfl (zk (za rfl (zk (za rfl (x6 (vs := [.slice _ _ _]) H sz89 rfl rfl rfl rfl rfl (by omega) (fun s10 H => ?_))))))))
  refine za rfl (zk (zb (zF (zV (zt (end_ttct rfl rfl sh89 rfl H.own1 rfl rfl ?_))))))
  exact ⟨[], ⟨none, 0, 0⟩, sl, 0, 6, rfl, (H.sub (List.nil_sublist _)).up (by omega), .inl rfl⟩
 refine za rfl (yA rfl (za rfl (zH rfl rfl (za rfl (zH rfl rfl (za rfl (zC H zf162 (by omega) (fun b12 s11 H => ?_))))))))
 refine za rfl (zD (vs := [.int _ _, .int _ _]) H xK rfl rfl rfl rfl rfl (by omega) (fun s12 H => ?_))
 refine za rfl (zw rfl (zb (zq (zc (za rfl (zl rfl (za rfl (op_not rfl (zb (zx rfl (zA (zi (zc (za rfl (zC H zf25 (by omega) (fun b19 s13 H => ?_))))))))))))))))
 refine zb (zc (za rfl (zC H zf103 (by omega) (fun b20 s14 H => ?_))))
 refine zb (zc (za rfl (op_makeFunc (za rfl (zD (vs := [ADD b11 b19 b4 b20]) H sz103 rfl rfl rfl rfl rfl (by omega) (fun s91 H => ?_))))))
 refine zb (zc (za rfl (zj sh103 rfl H.own0 rfl (za rfl (zd rfl (za rfl (zo rfl fc81 rfl ?_)))))))
 have H := HL.perm H (List.Perm.swap _ _ _)
 have hdis : ∀ r ∈ [kb, km, b11, b4, b20] ++ blkV am, r ≠ b19 := find_dis H hR.mK hp4 hm
 obtain ⟨_, s9, hr, D2, so2, l2, n2, rfl, Hc, ho2, hl2, ht2⟩ := add_all hI hmk hml hK1 64 w (by omega) (by omega) (by omega) ⟨_, _, mK1, by simpa using can1⟩ _ [] ⟨none, 0, 0⟩ [] H.fine (find_ad H hR hp4 hm hdis) (by simp only [List.length_nil]; omega) (by have := H.most; omega)
 refine ⟨_, _, hr, ?_⟩
 clear hr
 have H := HL.callW (A := [_]) (L := _ :: _ :: _ :: _ :: _ :: R) H Hc (by intro b hb; simp only [xm, List.map_nil, List.mem_cons, List.not_mem_nil, or_false] at hb; subst hb; exact ⟨_, List.mem_singleton.mpr rfl⟩) (by intro p hp; rw [List.mem_singleton] at hp; subst hp; simp)
 clear Hc
 have H := find_end H
 refine zb (yC [⟨0, 0, .light, [2]⟩, ⟨1, 0, .light, [0]⟩, ⟨2, 2, .light, [0]⟩, ⟨3, 0, .light, [0, 2]⟩, ⟨4, 1, .light, [2]⟩, ⟨5, 23, .light, []⟩, ⟨6, 63, .whole, []⟩, ⟨7, 127, .light, []⟩] (by kernel_rfl) (by kernel_rfl) (zy rfl rfl sh25 rfl H.own0 (by exact H.lim0 (by omega)) rfl (ze rfl rfl (zf xj rfl ⟨rfl, (zy rfl rfl sh3 rfl H.own1 (by exact H.lim1 (by omega)) rfl (ze rfl rfl (yN (c := [.slice _ _ _]) bf89 rfl ⟨rfl, (ze rfl rfl (yb rfl ⟨rfl, (ze rfl rfl (zm rfl ⟨rfl, (dr_store2 (vs := [.slice _ _ _]) (fr := []) H rfl rfl sz89 rfl rfl rfl rfl rfl rfl (by have hd := H.dist; simp only [List.pairwise_cons, List.mem_cons, List.not_mem_nil, or_false, forall_eq_or_imp, forall_eq, false_imp_iff, implies_true] at hd ⊢; try omega) (by omega) (fun s15 H => ?_))⟩))⟩))⟩)))⟩))))
 refine ze rfl rfl (zk ⟨rfl, (z2 (zF (zt (end_ttct rfl rfl sh89 rfl H.own2 rfl rfl (⟨D2, so2, ⟨none, 0, 0⟩, sm5, 0, rfl, (HL.sub H (L' := D2) ?_).up (by omega), .inr ⟨rfl, n2, own_n ho2 hl2, ht2⟩⟩)))))⟩)
 exact .cons _ (.cons _ (.cons _ (List.Sublist.refl _)))
end Go.Proofs.YtdejleegamcioaaGreat
namespace Go.Proofs.YtdejleegamcioaaGreat
open Go Go.M
def oneChk : Bool := (List.range 64).all fun w => !(Nat.beq (pcN w) 1) || (List.range 16).all fun a => (List.range 16).all fun b => !(bit (w : Int) a && bit (w : Int) b) || Nat.beq a b
theorem oneChk_ok : oneChk = true := by kernel_rfl
theorem one_bits {w a b : Nat} (hw : w < 64) (ha : a < 16) (hb : b < 16) (h : pcN w = 1) (h1 : bit (w : Int) a = true) (h2 : bit (w : Int) b = true) : a = b := by
 have h0 := oneChk_ok
 unfold oneChk at h0
 have g1 := List.all_eq_true.mp h0 w (List.mem_range.mpr hw)
 rw [h] at g1
 simp only [Nat.beq_refl, Bool.not_true, Bool.false_or] at g1
 have g2 := List.all_eq_true.mp g1 a (List.mem_range.mpr ha)
 have g3 := List.all_eq_true.mp g2 b (List.mem_range.mpr hb)
 rw [h1, h2] at g3
 simp only [Bool.and_self, Bool.not_true, Bool.false_or] at g3
 exact Nat.eq_of_beq_eq_true g3
theorem needs_one {bad S : Int} (h0 : 0 < S) (h1 : S ≤ 63) (hp : pcN S.toNat = 1) : ∀ (i : Nat) (js : List (Int × Int)), (∀ j ∈ js, joinB j ∧ j.1 ≠ j.2) → y7 S bad i js = false
 | _, [], _ => rfl
 | i, j :: r, h => by
  have ih := needs_one h0 h1 hp (bad := bad) (i + 1) r (fun x hx => h x (List.mem_cons_of_mem _ hx))
  obtain ⟨⟨⟨a1, a2⟩, a3, a4⟩, hne⟩ := h j List.mem_cons_self
  rw [y7, ih, Bool.or_false]
  cases hb1 : bit S j.1.toNat with
  | false => simp
  | true =>
   cases hb2 : bit S j.2.toNat with
   | false => simp
   | true =>
    obtain ⟨w, rfl⟩ := Int.eq_ofNat_of_zero_le (Int.le_of_lt h0)
    have := one_bits (w := w) (by omega) (by omega) (by omega) (by simpa using hp) hb1 hb2
    omega
theorem tree_bb {js : List (Int × Int)} {bad : Int} {may : List Sp} (hm : xh may) (hj : ∀ j ∈ js, joinB j ∧ j.1 ≠ j.2) {S : Int} {n : Nat} (h : TreeN may S n) : 0 < S → S ≤ 63 → (bb js bad may S).1 ≤ (n : Int) := by
 induction h with
 | leaf hp =>
  intro h0 h1
  rw [bb_zero hm h0 (needs_one h0 h1 hp 0 js hj)]
  exact Int.le_refl _
 | @node S a b m hmm hw _ _ ih1 ih2 =>
  intro h0 h1
  obtain ⟨ha, hb⟩ := hm m hmm
  have hs := yU ha hb
  rw [hw] at hs
  have i1 := ih1 (by omega) (by omega)
  have i2 := ih2 (by omega) (by omega)
  have := bb_le (js := js) (bad := bad) hm h0 hmm hw
  omega
section
variable {P : Program} {I : zJ} {F : FF} {W : List Nat} {s0 s : St} {L : Hp'} {n : Nat} {Q : FF → St → Prop} {d : Option Tmp} {ty : TypeId} {pos : String} {af : Array Edge} {g : Option (Nat × Bool)}
theorem op_appendE {ag : Array Operand} {ts : Array TypeId} {t t2 e e2 : TypeId} {tr : List TypeId} {x y : Operand} {sz by_ m b : Nat} {z l : List Value} (H : HL W s0 s ((b, .cells [] e) :: L) n) (hs : xG P t = some (e, sz, by_, z)) (hu2 : P.underlying t2 = some (.slice e2))
  (ht : ts.toList = t :: t2 :: tr) (ha : ag.toList = [x, y]) (hx : zn F x = .slice (some ⟨b, 0, none⟩) 0 0) (he : Elems s sz (zn F y) m l) (hp : l.all Go.M.plainCell = true) (hl : l.length = m * sz) (hb : m * (by_ + 1) ≤ 1073741824) (hr : s0.next + n < zh)
  (k : ∀ b' cap' s', HL W s0 s' ((b', .cells l e) :: L) (n + 1) → cap' / 2 = m → Q (upd F d (.slice (some ⟨b', 0, none⟩) m cap')) s') : OpW P I ⟨d, .call ⟨.builtin .append, ag, ts⟩, ty, pos, af, g⟩ F s Q := by
 by_cases hm : m = 0
 ·subst hm
  have hl0 : l = [] := List.eq_nil_of_length_eq_zero (by omega)
  subst hl0
  exact op_appendNone' H hs hu2 ht ha hx he (by omega) (by simp) (by omega) (fun s' H' => k _ _ _ (H'.up (by omega)) (by decide))
 ·exact op_append00 H hs hu2 ht ha hx he (by omega) hp hl hb hr (fun b' s' H' => k _ _ _ H' (by omega))
end
end Go.Proofs.YtdejleegamcioaaGreat
namespace Go.Proofs.YtdejleegamcioaaGreat
open Go Go.M
end Go.Proofs.YtdejleegamcioaaGreat
namespace Go.Proofs.YtdejleegamcioaaGreat
open Go Go.M
section
variable {js : List (Int × Int)} {bad : Int} {may : List Sp} {w : Int}
end
end Go.Proofs.YtdejleegamcioaaGreat
