/- The splits of the least cleaning, one after the other. -/
/- The splits of the least cleaning: the closure that takes them. -/
/- What the least cleaning breaks; small facts for the statements. -/
/- What is asked of the examples. -/
/- How many blocks the recursion makes at most. -/
/- undo.Least, up to the loop over what is known. -/
/- undo.Least, behind the loop over what is known. -/
/- undo.Least as a function of this machine: the loop over the map in one step. -/
import Derived.Test.YtdejleegamcioaaGreatF19
namespace Go.Proofs.YtdejleegamcioaaGreat
open Go Go.M
section
variable {js : List (Int × Int)} {bad : Int} {may : List Sp}
theorem fold_from {v : Int → Int} {S : Int} : ∀ (l : List Sp) (acc : Int × Sp), l.foldl (y4 v S) acc = acc ∨ ∃ m ∈ l, m.w = S ∧ v m.p < 65536 ∧ v (zI S m.p) < 65536 ∧ l.foldl (y4 v S) acc = (1 + v m.p + v (zI S m.p), m)
 | [], acc => .inl rfl
 | m :: l, acc => by
  simp only [List.foldl_cons]
  rcases fold_from l (y4 v S acc m) with h | ⟨x, hx, h⟩
  ·rw [h]
   unfold y4
   by_cases hw : m.w = S
   ·rw [if_neg (by simpa using hw)]
    split
    ·next hc => exact .inr ⟨m, by simp, hw, hc.1, hc.2.1, rfl⟩
    ·exact .inl rfl
   ·rw [if_pos hw]; exact .inl rfl
  ·exact .inr ⟨x, by simp [hx], h⟩
theorem bb_split (hm : y0 may) {S : Int} (h0 : 0 < S) (h1 : 0 < (bb js bad may S).1) (h2 : (bb js bad may S).1 < 65536) : yl S bad 0 js = true ∧ (bb js bad may S).2 ∈ may ∧ (bb js bad may S).2.w = S ∧ (bb js bad may (bb js bad may S).2.p).1 < 65536 ∧ (bb js bad may (zI S (bb js bad may S).2.p)).1 < 65536 ∧
  (bb js bad may S).1 = 1 + (bb js bad may (bb js bad may S).2.p).1 + (bb js bad may (zI S (bb js bad may S).2.p)).1 := by
 have he := bb_eq (js := js) (bad := bad) hm h0
 by_cases hn : yl S bad 0 js = true
 ·rw [if_pos hn] at he
  rcases fold_from (v := fun x => (bb js bad may x).1) (S := S) may (65536, default) with h | ⟨m, hmm, hw, ha, hb, h⟩
  ·rw [he, h] at h2; simp at h2
  ·rw [h] at he
   rw [he]
   exact ⟨hn, hmm, hw, ha, hb, rfl⟩
 ·rw [if_neg hn] at he
  rw [he] at h1
  simp at h1
def tk (js : List (Int × Int)) (bad : Int) (may : List Sp) : Nat → Int → List Sp
 | 0, _ => []
 | f + 1, S => if 0 < (bb js bad may S).1 then (bb js bad may S).2 :: (tk js bad may f (bb js bad may S).2.p ++ tk js bad may f (zI S (bb js bad may S).2.p)) else []
end
abbrev keysH (D : Hp') : List Nat := D.map (·.1)
structure TkSt (s : St) (r bK bO bT : Nat) (E : List Ent) (D : Hp') (so : Slc) (l : List Sp) : Prop where
 gK : s.get bK = some (.cells [.map (some r)] 96)
 lK : bK < s.next
 gT : s.get bT = some (.cells [.func (.func 44) #[] #[ptr bK, ptr bO, ptr bT]] 103)
 lT : bT < s.next
 gR : s.get r = some (qq E)
 lR : r < s.next
 own : ∀ p, p ∈ ((bO, .cells [so.v] 25) :: D : Hp') → s.get p.1 = some p.2 ∧ p.1 < s.next ∧ s.may p.1 = true
 dist : ((bO, .cells [so.v] 25) :: D : Hp').Pairwise fun p q => p.1 ≠ q.1
 isO : Own 62 10 D so.v (xX l) l.length
section
variable {s s' : St} {r bK bO bT : Nat} {E : List Ent} {D D' : Hp'} {so so' : Slc} {l l' : List Sp} {L : Hp'} {n : Nat}
theorem TkSt.elem (h : TkSt s r bK bO bT E D so l) {p : Nat × MObj} (hp : p ∈ ((bO, .cells [so.v] 25) :: D : Hp')) : ∃ c e, p.2 = .cells c e ∧ (e = 25 ∨ e = 62) := by
 rcases List.mem_cons.mp hp with rfl | hp
 ·exact ⟨_, _, rfl, .inl rfl⟩
 ·have ho := h.isO
  generalize xX l = cc at ho
  generalize l.length = ll at ho
  generalize so.v = vv at ho
  cases ho with
  | nil => cases hp
  | block b cap c len hl hcap =>
   rw [List.mem_singleton] at hp
   subst hp
   exact ⟨_, _, rfl, .inr rfl⟩
theorem TkSt.notin (h : TkSt s r bK bO bT E D so l) {b : Nat} {o : MObj} (hg : s.get b = some o) (ho : ∀ c, o ≠ .cells c 25 ∧ o ≠ .cells c 62) : b ∉ bO :: keysH D := by
 intro hb
 have : b ∈ keysH ((bO, .cells [so.v] 25) :: D) := by simpa using hb
 obtain ⟨p, hp, rfl⟩ := List.mem_map.mp this
 have h1 := (h.own p hp).1
 rw [hg, Option.some.injEq] at h1
 obtain ⟨c, e, h2, h3⟩ := h.elem hp
 rw [h2] at h1
 rcases h3 with rfl | rfl
 ·exact (ho c).1 h1
 ·exact (ho c).2 h1
theorem TkSt.oldK (h : TkSt s r bK bO bT E D so l) (H : HL (bO :: keysH D) s s' L n) : s'.get bK = some (.cells [.map (some r)] 96) := by
 rw [H.kept _ h.lK (h.notin h.gK (by intro c; constructor <;> simp))]; exact h.gK
theorem TkSt.oldT (h : TkSt s r bK bO bT E D so l) (H : HL (bO :: keysH D) s s' L n) : s'.get bT = some (.cells [.func (.func 44) #[] #[ptr bK, ptr bO, ptr bT]] 103) := by
 rw [H.kept _ h.lT (h.notin h.gT (by intro c; constructor <;> simp))]; exact h.gT
theorem TkSt.oldR (h : TkSt s r bK bO bT E D so l) (H : HL (bO :: keysH D) s s' L n) : s'.get r = some (qq E) := by
 rw [H.kept _ h.lR (h.notin h.gR (by intro c; constructor <;> simp [qq]))]; exact h.gR
theorem TkSt.hl (h : TkSt s r bK bO bT E D so l) (hf : Fine s) : HL (bO :: keysH D) s s ((bO, .cells [so.v] 25) :: D) 0 :=
 ⟨rfl, rfl, hf.wfb, hf.wfp, Nat.le_refl _, Nat.le_refl _, fun p hp => ⟨(h.own p hp).1, (h.own p hp).2.1, (h.own p hp).2.2, .inr (by
  have : p.1 ∈ keysH ((bO, .cells [so.v] 25) :: D) := List.mem_map.mpr ⟨p, hp, rfl⟩
  simpa using this)⟩, h.dist, fun _ _ _ => rfl⟩
theorem TkSt.later (h : TkSt s r bK bO bT E D so l) (H : HL (bO :: keysH D) s s' L n) (hs : ((bO, .cells [so'.v] 25) :: D').Sublist L) (ho : Own 62 10 D' so'.v (xX l') l'.length) : TkSt s' r bK bO bT E D' so' l' := by
 have hle := H.le
 refine ⟨h.oldK H, by have := h.lK; omega, h.oldT H, by have := h.lT; omega, h.oldR H, by have := h.lR; omega, fun p hp => ?_, H.dist.sublist hs, ho⟩
 obtain ⟨h1, h2, h3, _⟩ := H.own p (hs.subset hp)
 exact ⟨h1, h2, h3⟩
end
end Go.Proofs.YtdejleegamcioaaGreat
namespace Go.Proofs.YtdejleegamcioaaGreat
open Go Go.M
theorem fb44 : yw Tryz.f44 (Tryz.f44.body.getD .skip) 4 = true := by kernel_rfl
theorem fc44 : yp Tryz.prog 44 = true := by kernel_rfl
theorem of99_1 : offF Tryz.prog 99 1 = some 1 := by kernel_rfl
theorem sh103 : ys Tryz.prog 103 = some (none) := by kernel_rfl
def TkC (I : yb) (js : List (Int × Int)) (bad : Int) (may : List Sp) (r bK bO bT : Nat) (E : List Ent) (f : Nat) : Prop :=
 ∀ (S : Int), 0 < S → S.toNat < f → S ∈ yH E → (bb js bad may S).1 < 65536 → ∀ (s : St) (D : Hp') (so : Slc) (l : List Sp), Fine s → TkSt s r bK bO bT E D so l → (l.length : Int) + (bb js bad may S).1 ≤ 70000 → s.next + 3 * (2 * (bb js bad may S).1.toNat + 1) ≤ zo →
  ∃ v' s', yI Tryz.prog I 44 #[.int .i64 S, ptr bK, ptr bO, ptr bT] s v' s' ∧ (∃ D' so', v' = .tuple ⟨[]⟩ ∧ HL (bO :: keysH D) s s' ((bO, .cells [Slc.v so'] 25) :: D') (3 * (2 * (bb js bad may S).1.toNat + 1)) ∧ Own 62 10 D' so'.v (xX (l ++ tk js bad may f S)) (l ++ tk js bad may f S).length)
theorem tk_len {js : List (Int × Int)} {bad : Int} {may : List Sp} (hm : y0 may) : ∀ (f : Nat) (S : Int), 0 < S → S.toNat < f → (bb js bad may S).1 < 65536 → ((tk js bad may f S).length : Int) = (bb js bad may S).1
 | 0, S, _, h, _ => by omega
 | f + 1, S, h0, h1, h2 => by
  have hr := yR (js := js) (bad := bad) (may := may) S
  simp only [tk]
  split
  ·next hp =>
   obtain ⟨hn, hx, hw, ha, hb, he⟩ := bb_split hm h0 hp h2
   obtain ⟨hs, hpb⟩ := hm _ hx
   obtain ⟨q1, q2, q3, q4, q5, q6⟩ := yP hs hpb
   rw [hw] at q2 q3 q4
   have i1 := tk_len hm f (bb js bad may S).2.p q1 (by omega) ha
   have i2 := tk_len hm f (zI S (bb js bad may S).2.p) q3 (by omega) hb
   simp only [List.length_cons, List.length_append]
   omega
  ·simp only [List.length_nil]; omega
set_option maxHeartbeats 4000000 in
set_option maxRecDepth 10000 in
theorem take_step {I : yb} (hI : Plain I) {js : List (Int × Int)} {bad : Int} {may : List Sp} (hm : y0 may) {r bK bO bT : Nat} {E : List Ent} (hg : Good js bad may E) {f : Nat} (ih : TkC I js bad may r bK bO bT E f) : TkC I js bad may r bK bO bT E (f + 1) := by
 intro S hS hSf hSE hS6 s D so l hf hst hln hroom
 have H := hst.hl hf
 have hrg := yR (js := js) (bad := bad) (may := may) S
 obtain ⟨e, hfe⟩ := find_of_key hSE
 obtain ⟨he1, he2⟩ := of_find hfe
 have hv := hg.val e he1
 rw [he2] at hv
 have hvn : e.n = (bb js bad may S).1 := by rw [← hv]
 have hvx : e.x = (bb js bad may S).2 := by rw [← hv]
 obtain ⟨soa, son, soc⟩ := so
 refine yc 4 (hI 44 (by decide) (by decide)) Tryz.func44 rfl fb44 rfl ?_
 refine ze (za rfl (zl sh96 rfl (by exact hst.oldK H) rfl (za rfl (zf rfl (za rfl (op_lookupSome (e := e) un96 un23 rfl rfl (hst.oldR H) hfe (za rfl (z6 H zf99 (by omega) (fun b5 s1 H => ?_)))))))))
 refine za rfl (zX (vs := [.int _ _, .int _ _, .int _ _, .bool _, .slice _ _ _, .bool _, .slice _ _ _, .bool _, .slice _ _ _, .bool _, .slice _ _ _]) H sz99 rfl rfl rfl rfl rfl (by omega) (fun s2 H => ?_))
 refine zb (ze (za rfl (zg of99_0 rfl (za rfl (zl sh3 rfl H.own0 rfl (za rfl (yz rfl rfl (fun h => ?_) (fun h => ?_))))))))
 ·refine zb (zq rfl ?_)
  obtain ⟨hn, hx, hw, ha, hb, hbe⟩ := bb_split hm hS (by omega) hS6
  obtain ⟨hs1, hpb⟩ := hm _ hx
  obtain ⟨q1, q2, q3, q4, q5, q6⟩ := yP hs1 hpb
  rw [hw] at q2 q3 q4
  rw [← hvx] at q1 q2 q3 q4
  obtain ⟨k1, k2⟩ := hg.clo e he1 (by rw [he2]; exact hn) e.x (by rw [hvx]; exact hx) (by rw [hvx, he2]; exact hw)
  rw [he2] at k2
  have hra := yR (js := js) (bad := bad) (may := may) (bb js bad may S).2.p
  have hrb := yR (js := js) (bad := bad) (may := may) (zI S (bb js bad may S).2.p)
  refine ze (za rfl (zl sh25 rfl H.own1 rfl (za rfl (zg of99_1 rfl (za rfl (ya sh62 rfl H.own0 rfl (za rfl (yd (c := [.int _ _, .int _ _, .bool _, .slice _ _ _, .bool _, .slice _ _ _, .bool _, .slice _ _ _, .bool _, .slice _ _ _]) H sl25 rfl rfl (by omega) (fun b15 s3 H => ?_)))))))))
  have hgt := H.own0
  have H := HL.swap (A := [_, _]) (B := D) H.drop0
  refine za rfl (xn H hst.isO sl25 qF rfl rfl rfl (xa hgt rfl) (by decide) rfl rfl (by omega) (by omega) (fun b16 s16 H ho => ?_))
  refine za rfl (qP (vs := [.slice _ _ _]) H sz25 rfl rfl rfl rfl rfl (by omega) (fun s4 H => ?_))
  refine zb ?_
  have hoo : Own 62 10 [(b16, .cells (xX l ++ e.x.cells) 62)] (Slc.v ⟨some ⟨b16, 0, none⟩, l.length + 1, 2 * (l.length + 1) + 1⟩) (xX (l ++ [e.x])) (l ++ [e.x]).length := by
   rw [show xX (l ++ [e.x]) = xX l ++ e.x.cells from flat_snoc, List.length_append]
   exact ho
  have H : HL (bO :: keysH D) s _ [(b5, _), (bO, .cells [Slc.v ⟨some ⟨b16, 0, none⟩, l.length + 1, 2 * (l.length + 1) + 1⟩] 25), (b16, .cells (xX l ++ e.x.cells) 62)] _ := HL.swap (A := [_]) (B := [_, _]) H
  refine ze (za rfl (zl sh103 rfl (by exact hst.oldT H) rfl (za rfl (zg of99_1 rfl (za rfl (zg y9 rfl (za rfl (zl yx rfl H.own0 rfl (za rfl (zy rfl fc44 rfl ?_))))))))))
  obtain ⟨_, s9, hr, D2, so2, rfl, Hc, ho2⟩ := ih e.x.p q1 (by omega) k1 (by rw [hvx]; exact ha) _ [(b16, .cells (xX l ++ e.x.cells) 62)] ⟨some ⟨b16, 0, none⟩, l.length + 1, 2 * (l.length + 1) + 1⟩ (l ++ [e.x]) H.fine (hst.later H (.cons _ (List.Sublist.refl _)) hoo) (by simp only [List.length_append, List.length_singleton]; rw [hvx]; omega) (by have := H.most; rw [hvx]; omega)
  refine ⟨_, _, hr, ?_⟩
  clear hr
  have H := HL.callW (A := [_, _]) (L := [_]) (HL.swap (A := [_]) (B := [_, _]) H) Hc (by intro b hb; simp only [List.mem_cons, List.map_cons, List.map_nil, List.not_mem_nil, or_false] at hb; rcases hb with rfl | rfl; { exact ⟨_, List.mem_cons_self⟩ }; { exact ⟨_, List.mem_cons_of_mem _ List.mem_cons_self⟩ }) (by intro p hp; have := List.mem_map_of_mem (f := Prod.fst) hp; exact this)
  clear Hc
  have H := HL.swap (A := _ :: D2) (B := [_]) H
  refine zb (zF (za rfl (zl sh103 rfl (by exact hst.oldT H) rfl (za rfl (zf rfl (za rfl (zg of99_1 rfl (za rfl (zg y9 rfl (za rfl (zl yx rfl H.own0 rfl (za rfl (x7 rfl rfl (za rfl (zy rfl fc44 rfl ?_)))))))))))))))
  obtain ⟨_, s9, hr, D3, so3, rfl, Hc, ho3⟩ := ih (zI S e.x.p) q3 (by omega) k2 (by rw [hvx]; exact hb) _ D2 so2 ((l ++ [e.x]) ++ tk js bad may f e.x.p) H.fine (hst.later H (.cons _ (List.Sublist.refl _)) ho2) (by simp only [List.length_append, List.length_singleton]; have := tk_len hm f e.x.p q1 (by omega) (by rw [hvx]; exact ha); rw [hvx] at this ⊢; omega) (by have := H.most; rw [hvx] at this ⊢; omega)
  refine ⟨_, _, hr, ?_⟩
  clear hr
  have H := HL.callW (A := _ :: D2) (L := [_]) (HL.swap (A := [_]) (B := _ :: D2) H) Hc (by intro b hb; obtain ⟨p, hp, rfl⟩ := List.mem_map.mp (show b ∈ keysH ((bO, .cells [Slc.v so2] 25) :: D2) from hb); exact ⟨p.2, hp⟩) (by intro p hp; have := List.mem_map_of_mem (f := Prod.fst) hp; exact this)
  clear Hc
  refine zb (nrm_end (end_nil (⟨D3, so3, rfl, H.left.up (by rw [hvx] at *; omega), ?_⟩)))
  rw [tk, if_pos (by omega)]
  rw [hvx, List.append_assoc, List.append_assoc] at ho3
  exact ho3
 refine zb (zv rfl (zD (nrm_end (end_nil (⟨D, ⟨soa, son, soc⟩, rfl, H.drop0.up (by omega), ?_⟩)))))
 rw [tk, if_neg (by omega), List.append_nil]
 exact hst.isO
theorem take_ok {I : yb} (hI : Plain I) {js : List (Int × Int)} {bad : Int} {may : List Sp} (hm : y0 may) {r bK bO bT : Nat} {E : List Ent} (hg : Good js bad may E) : ∀ f, TkC I js bad may r bK bO bT E f
 | 0 => fun S _ h => by omega
 | f + 1 => take_step hI hm hg (take_ok hI hm hg f)
end Go.Proofs.YtdejleegamcioaaGreat
namespace Go.Proofs.YtdejleegamcioaaGreat
open Go Go.M
theorem bit_nat (x k : Nat) : bit (x : Int) k = x.testBit k := by
 unfold bit
 rw [Nat.testBit_eq_decide_div_mod_eq]
 congr 1
 have e : ((x : Int) / 2 ^ k) = ((x / 2 ^ k : Nat) : Int) := by simp
 rw [e]
 apply propext
 constructor <;> intro h <;> omega
section
variable {js : List (Int × Int)} {bad : Int} {may : List Sp}
end
theorem valid_split {w p : Int} (h : validB w p = true) : xl w p = true ∧ p < 9223372036854775808 := by
 simp only [validB, Bool.and_eq_true, decide_eq_true_eq] at h
 obtain ⟨⟨⟨⟨h1, h2⟩, h3, h4⟩, h5⟩, h6⟩ := h
 refine ⟨?_, by omega⟩
 obtain ⟨a, rfl⟩ := Int.eq_ofNat_of_zero_le (show 0 ≤ w by omega)
 obtain ⟨b, rfl⟩ := Int.eq_ofNat_of_zero_le (show 0 ≤ p by omega)
 have ha := x8 (a := a) (by omega)
 have hb := x8 (a := b) (by omega)
 have hz : BitVec.ofInt 64 (b : Int) &&& BitVec.ofInt 64 (a : Int) = BitVec.ofInt 64 (b : Int) := by
  apply BitVec.eq_of_toNat_eq
  rw [andI_nat (by omega) (by omega)] at h5
  rw [BitVec.toNat_and, ha, hb]
  omega
 have hz2 : BitVec.ofInt 64 (b : Int) &&& ~~~ BitVec.ofInt 64 (a : Int) = 0#64 := by
  rw [← hz, BitVec.and_assoc]
  simp
 have hr : zI (b : Int) (a : Int) = 0 := by
  unfold zI bitsI
  simp only
  rw [hz2]
  decide
 simp only [xl, Bool.and_eq_true, decide_eq_true_eq]
 exact ⟨⟨⟨⟨by omega, by omega⟩, by omega⟩, hr⟩, h6⟩
end Go.Proofs.YtdejleegamcioaaGreat
namespace Go.Proofs.YtdejleegamcioaaGreat
open Go Go.M
def LivesC (I : yb) : Prop := ∀ (s : St), Fine s → s.next + 1000000 ≤ zo → ∃ v' s', yI Tryz.prog I 17 #[] s v' s' ∧ (v' = .bool true ∧ HL [] s s' [] 1000000)
theorem SlG.slc {D : Hp'} {e : TypeId} {sz : Nat} {x : Slc} {es : List (List Value)} (h : SlG D e sz x.v es) : x.n = es.length := by
 cases h with
 | nil c hv hl => subst hl; simp only [Slc.v, Value.slice.injEq] at hv; exact hv.2.1
 | block b off cap c hv => simp only [Slc.v, Value.slice.injEq] at hv; exact hv.2.1
end Go.Proofs.YtdejleegamcioaaGreat
namespace Go.Proofs.YtdejleegamcioaaGreat
open Go Go.M
section
def cntLe (S : Int) (l : List Sp) : Nat := (l.filter fun m => decide (m.w ≤ S)).length
def cntEq (S : Int) (l : List Sp) : Nat := (l.filter fun m => decide (m.w = S)).length
theorem cnt_step (S : Int) : ∀ l : List Sp, cntLe S l = cntLe (S - 1) l + cntEq S l
 | [] => rfl
 | m :: l => by
  have ih := cnt_step S l
  simp only [cntLe, cntEq, List.filter_cons] at ih ⊢
  by_cases h1 : m.w = S
  ·rw [if_pos (by simp; omega), if_neg (by simp; omega), if_pos (by simp; omega)]
   simp only [List.length_cons]; omega
  ·by_cases h2 : m.w ≤ S
   ·rw [if_pos (by simp; omega), if_pos (by simp; omega), if_neg (by simp; omega)]
    simp only [List.length_cons]; omega
   ·rw [if_neg (by simp; omega), if_neg (by simp; omega), if_neg (by simp; omega)]
    omega
theorem cntLe_mono {S T : Int} (h : S ≤ T) : ∀ l : List Sp, cntLe S l ≤ cntLe T l
 | [] => Nat.le_refl _
 | m :: l => by
  have ih := cntLe_mono h l
  simp only [cntLe, List.filter_cons] at ih ⊢
  by_cases h1 : m.w ≤ S
  ·rw [if_pos (by simp; omega), if_pos (by simp; omega)]
   simp only [List.length_cons]; omega
  ·rw [if_neg (by simp; omega)]
   split
   ·simp only [List.length_cons]; omega
   ·omega
theorem three_pow (a : Nat) : 1 + 2 * a ≤ 3 ^ a := by
 induction a with
 | zero => simp
 | succ a ih => rw [Nat.pow_succ]; omega
theorem tbs_bound {t : Int → Nat} {S : Int} {B : Nat} : ∀ (l : List Sp), (∀ m ∈ l, m.w = S → t m.p ≤ B ∧ t (zI S m.p) ≤ B) → tbs t S l ≤ cntEq S l * (2 * B)
 | [], _ => by simp [tbs]
 | m :: l, h => by
  have ih := tbs_bound l fun x hx => h x (by simp [hx])
  simp only [tbs, cntEq, List.filter_cons] at ih ⊢
  by_cases h1 : m.w = S
  ·obtain ⟨q1, q2⟩ := h m (by simp) h1
   rw [if_pos h1, if_pos (by simp; omega), List.length_cons, Nat.add_mul]
   omega
  ·rw [if_neg h1, if_neg (by simp; omega)]
   omega
theorem tb_bound {may : List Sp} (hm : y0 may) : ∀ (f : Nat) (S : Int), tb may f S ≤ (60 + may.length) * 3 ^ cntLe S may
 | 0, S => by simp [tb]
 | f + 1, S => by
  rw [tb, cnt_step]
  have h1 := tbs_bound (t := tb may f) (S := S) (B := (60 + may.length) * 3 ^ cntLe (S - 1) may) may fun m hmm hw => by
   obtain ⟨hs, hp⟩ := hm m hmm
   obtain ⟨q1, q2, q3, q4, q5, q6⟩ := yP hs hp
   rw [hw] at q2 q4
   refine ⟨Nat.le_trans (tb_bound hm f m.p) ?_, Nat.le_trans (tb_bound hm f (zI S m.p)) ?_⟩
   ·exact Nat.mul_le_mul_left _ (Nat.pow_le_pow_right (by decide) (cntLe_mono (by omega) may))
   ·exact Nat.mul_le_mul_left _ (Nat.pow_le_pow_right (by decide) (cntLe_mono (by omega) may))
  have h2 := three_pow (cntEq S may)
  have h3 : 1 ≤ 3 ^ cntLe (S - 1) may := Nat.one_le_pow _ _ (by decide)
  rw [Nat.pow_add, ← Nat.mul_assoc]
  generalize 60 + may.length = C at *
  generalize 3 ^ cntLe (S - 1) may = X at *
  generalize 3 ^ cntEq S may = Y at *
  generalize cntEq S may = a at *
  calc C + tbs (tb may f) S may ≤ C + a * (2 * (C * X)) := by omega
   _ ≤ C * X + a * (2 * (C * X)) := by
    have : C * 1 ≤ C * X := Nat.mul_le_mul_left _ h3
    omega
   _ = (C * X) * (1 + 2 * a) := by
    rw [Nat.mul_add, Nat.mul_one, ← Nat.mul_assoc, Nat.mul_comm a 2, Nat.mul_comm (C * X) (2 * a)]
   _ ≤ (C * X) * Y := Nat.mul_le_mul_left _ h2
theorem tb_small {may : List Sp} (hm : y0 may) (hl : may.length ≤ 15) (f : Nat) (S : Int) : tb may f S ≤ 1100000000 := by
 refine Nat.le_trans (tb_bound hm f S) ?_
 have h1 : cntLe S may ≤ 15 := Nat.le_trans (List.length_filter_le _ _) hl
 have h2 : 3 ^ cntLe S may ≤ 3 ^ 15 := Nat.pow_le_pow_right (by decide) h1
 calc (60 + may.length) * 3 ^ cntLe S may ≤ 75 * 3 ^ 15 := Nat.mul_le_mul (by omega) h2
  _ ≤ 1100000000 := by decide
end
section
variable {P : Program} {I : yb} {F : FF} {s : St} {Q : FF → St → Prop} {d : Option Tmp} {ty : TypeId} {pos : String} {af : Array Edge} {g : Option (Nat × Bool)} {W : List Nat} {s0 : St} {L : Hp'} {n : Nat}
theorem op_makeMap {t : TypeId} (H : HL W s0 s L n) (hr : s0.next + n < zo) (k : ∀ b s', HL W s0 s' ((b, qq []) :: L) (n + 1) → Q (upd F d (.map (some b))) s') : OpW P I ⟨d, .makeMap t none, ty, pos, af, g⟩ F s Q := by
 refine yj (v := .map (some s.next)) (s' := s.new (.map #[] 0)) ?_ (k _ _ (H.new _ hr))
 have hroom := H.room hr
 simp only [zK, mapM, hroom]
 rfl
end
end Go.Proofs.YtdejleegamcioaaGreat
namespace Go.Proofs.YtdejleegamcioaaGreat
open Go Go.M
theorem bf36 : buildF Tryz.prog 36 = some ([.slice none 0 0, .slice none 0 0], [(0, 1), (1, 1)]) := by kernel_rfl
theorem fc40 : yp Tryz.prog 40 = true := by kernel_rfl
theorem sz36 : xe Tryz.prog 36 = some 2 := by kernel_rfl
theorem sz96 : xe Tryz.prog 96 = some 1 := by kernel_rfl
theorem sz97 : xe Tryz.prog 97 = some 1 := by kernel_rfl
theorem zf36 : zeroF Tryz.prog 36 = some [.slice none 0 0, .slice none 0 0] := by kernel_rfl
theorem zf96 : zeroF Tryz.prog 96 = some [.map none] := by kernel_rfl
theorem zf97 : zeroF Tryz.prog 97 = some [.nilFunc] := by kernel_rfl
def takeS : Nat → Code → Code
 | 0, _ => .skip
 | 1, .seq x _ => x
 | n + 2, .seq x y => .seq x (takeS (n + 1) y)
 | _ + 1, c => c
def dropS : Nat → Code → Code
 | 0, c => c
 | n + 1, .seq _ y => dropS n y
 | _ + 1, c => c
noncomputable def xt : Code := Tryz.f12.body.getD .skip
noncomputable def y6 : Code := takeS 8 xt
noncomputable def leastTail : Code := dropS 10 xt
def PreQ (js : List (Int × Int)) (bad : Int) (may : List Sp) (w : Int) (s : St) (N : Nat) : FOut → Prop
 | .ret F s' => (bb js bad may w).1 = 65536 ∧ ∃ (b10 : Nat), F 8 = .slice none 0 0 ∧ F 9 = .int .i64 0 ∧ F 10 = ptr b10 ∧ F 11 = .int .i64 6 ∧ HL [] s s' [(b10, .cells [.slice none 0 0, .slice none 0 0] 36)] N
 | .normal F s' => (bb js bad may w).1 < 65536 ∧ ∃ (G : FF) (b10 bK b16 r : Nat) (E : List Ent), F = lay G [(0, .int .i64 w), (10, ptr b10), (13, ptr bK), (15, .int .i64 (bb js bad may w).1), (16, ptr b16)] ∧ Good js bad may E ∧ w ∈ yH E ∧ E.length ≤ 65535 ∧ (∀ k ∈ yH E, Rch js bad may w k) ∧
   HL [] s s' [(b16, .cells [.slice none 0 0, .slice none 0 0] 36), (bK, .cells [.map (some r)] 96), (r, qq E), (b10, .cells [.slice none 0 0, .slice none 0 0] 36)] N
 | _ => False
theorem nodup_len : ∀ (N : Nat) (l : List Int), l.Nodup → (∀ x ∈ l, 0 < x ∧ x ≤ (N : Int)) → l.length ≤ N
 | 0, l, _, h => by
  cases l with
  | nil => simp
  | cons x l => have := h x (by simp); omega
 | N + 1, l, hn, h => by
  have h1 := nodup_len N (l.filter fun x => decide (x ≠ ((N + 1 : Nat) : Int))) (hn.filter _) (by
   intro x hx
   rw [List.mem_filter] at hx
   have := h x hx.1
   have h2 := hx.2
   simp only [decide_eq_true_eq] at h2
   omega)
  have h2 : l.count ((N + 1 : Nat) : Int) ≤ 1 := List.nodup_iff_count.mp hn _
  have h3 := List.length_eq_countP_add_countP (fun x => decide (x = ((N + 1 : Nat) : Int))) (l := l)
  have h4 : l.countP (fun x => decide (x = ((N + 1 : Nat) : Int))) = l.count ((N + 1 : Nat) : Int) := by
   rw [List.count]
   congr 1
  have h5 : l.countP (fun a => !decide (a = ((N + 1 : Nat) : Int))) = (l.filter fun x => decide (x ≠ ((N + 1 : Nat) : Int))).length := by
   rw [List.countP_eq_length_filter]
   congr 2
   funext x
   simp
  have h6 : l.countP (fun a => decide (¬ decide (a = ((N + 1 : Nat) : Int)) = true)) = l.countP (fun a => !decide (a = ((N + 1 : Nat) : Int))) := by
   congr 1
   funext x
   simp
  omega
theorem joinsB_of {js : List (Int × Int)} (h : ∀ j ∈ js, joinB j ∧ j.1 ≠ j.2) : qb js = true := by
 induction js with
 | nil => rfl
 | cons j r ih =>
  have h1 := h j (by simp)
  unfold joinB at h1
  rw [qb, ih fun x hx => h x (by simp [hx])]
  simp only [Bool.and_true, Bool.not_eq_true', Bool.or_eq_false_iff, decide_eq_false_iff_not]
  omega
theorem err_ok {w bad : Int} {js : List (Int × Int)} {may : List Sp} (hj : ∀ j ∈ js, joinB j ∧ j.1 ≠ j.2) (hjl : js.length ≤ 16) (hm : y0 may) (hml : may.length ≤ 4096) (hw0 : 0 < w) (hw1 : w < 65536) (hb0 : 0 ≤ bad) (hb1 : bad < 2 ^ js.length) : xK w js bad may = 0 := by
 unfold xK
 rw [if_neg (by omega), if_neg (by omega), if_neg, if_pos (joinsB_of hj)]
 rw [List.any_eq_true]
 rintro ⟨x, hx, hs⟩
 rw [(hm x hx).1] at hs
 cases hs
set_option maxHeartbeats 4000000 in
set_option maxRecDepth 10000 in
theorem pre_ok {I : yb} (hI : Plain I) {s : St} (hf : Fine s) {w bad : Int} {vj vm : Value} {js : List (Int × Int)} {may : List Sp} (hJ : Sl s 30 2 vj (js.map jc)) (hM : Sl s 62 10 vm (may.map Sp.cells)) (hj : ∀ j ∈ js, joinB j ∧ j.1 ≠ j.2) (hjl : js.length ≤ 16) (hm : y0 may) (hml : may.length ≤ 15) (hw0 : 0 < w) (hw1 : w < 65536) (hb0 : 0 ≤ bad) (hb1 : bad < 2 ^ js.length) (hroom : s.next + (10020 + tb may (w.toNat + 1) w) ≤ zo) :
  xD Tryz.prog I y6 (frameOf #[.int .i64 w, vj, .int .i64 bad, vm]) s (PreQ js bad may w s (10020 + tb may (w.toNat + 1) w)) := by
 have H := hf.hl
 obtain ⟨ja, jn, jcp, rfl, hjn⟩ := hJ.isSlice
 obtain ⟨ma, mn, mcp, rfl, hmn⟩ := hM.isSlice
 have herr := err_ok hj hjl hm (by omega) hw0 hw1 hb0 hb1
 have hrg := yR (js := js) (bad := bad) (may := may) w
 refine ze (za rfl (op_boxS H rfl (by omega) (fun b5 s1 H => ?_)))
 refine za rfl (op_boxI H rfl (by omega) (fun b6 s2 H => ?_))
 refine za rfl (op_boxS H rfl (by omega) (fun b7 s3 H => ?_))
 refine za rfl (zh (za rfl (zh (za rfl (z6 H zf36 (by omega) (fun b10 s4 H => ?_))))))
 refine za rfl (zh (zb (zx (ze (za rfl (zf rfl (za rfl (zl sh24 rfl H.own3 rfl (za rfl (zl yx rfl H.own2 rfl (za rfl (zl sh25 rfl H.own1 rfl (za rfl (zy rfl fc40 rfl ?_))))))))))))))
 obtain ⟨_, s9, hr, rfl, Hc⟩ := valid_args_ok (w := w) (bad := bad) hI H.fine (hJ.kept H) (hM.kept H) (by have := H.most; omega)
 refine ⟨_, _, hr, ?_⟩
 clear hr
 have H := H.call0 Hc
 clear Hc
 rw [herr]
 refine za rfl (zk rfl (zb (ze (za rfl (zf rfl (za rfl (yM rfl rfl (fun h => False.elim (by exact h rfl)) (fun h => ?_))))))))
 refine zb (zv rfl (zD (zj (ze (za rfl (op_makeMap H (by omega) (fun b31 s31 H => ?_)))))))
 refine za rfl (z6 H zf96 (by omega) (fun b13 s5 H => ?_))
 refine za rfl (zX (vs := [.map _]) H sz96 rfl rfl rfl rfl rfl (by omega) (fun s6 H => ?_))
 refine zb (ze (za rfl (z6 H zf97 (by omega) (fun b14 s7 H => ?_))))
 refine zb (ze (za rfl (op_makeFunc (za rfl (zX (vs := [_]) H sz97 rfl rfl rfl rfl rfl (by omega) (fun s8 H => ?_))))))
 refine zb (ze (za rfl (zl sh97 rfl H.own0 rfl (za rfl (zf rfl (za rfl (zy rfl fc41 rfl ?_)))))))
 have hst : OfSt _ b31 b13 b5 b6 b7 b14 (.slice ja jn jcp) bad (.slice ma mn mcp) js may [] := ⟨H.own1, H.lt1, H.own6, H.lt6, H.own5, H.lt5, H.own4, H.lt4, H.own0, H.lt0, H.own2, H.lt2, (H.own (b31, qq []) (by simp)).2.2.1, hJ.kept H, hM.kept H⟩
 obtain ⟨_, s9, hr, E, rfl, Hc, hg, hk, X, hX, hXb, hXl⟩ := of_ok hI (fun j hj2 => (hj j hj2).1) hjl hm (by omega) (w.toNat + 1) w hw0 (by omega) _ [] H.fine hst ⟨by simp [yH], (by intro e he; cases he), (by intro e he; cases he)⟩ (by have := H.most; omega)
 refine ⟨_, _, hr, ?_⟩
 clear hr
 have hEl : E.length ≤ 65535 := by
  have h1 := nodup_len 65535 (yH E) hg.nodup (by
   intro x hx
   obtain ⟨e, he, rfl⟩ := List.mem_map.mp hx
   rw [hX, List.nil_append] at he
   have := (hXb e he).1
   omega)
  simpa [yH] using h1
 have hRc : ∀ k ∈ yH E, Rch js bad may w k := by
  intro x hx
  obtain ⟨e, he, rfl⟩ := List.mem_map.mp hx
  rw [hX, List.nil_append] at he
  exact (hXb e he).2
 have H := HL.callW (A := [(b31, qq [])]) (L := [_, _, _, _, _, _]) (HL.mid (A := [_, _]) (B := [_]) (C := [_, _, _, _]) H) Hc (by intro b hb; rw [List.mem_singleton] at hb; subst hb; exact ⟨_, List.mem_singleton.mpr rfl⟩) (by intro p hp; rw [List.mem_singleton] at hp; subst hp; simp)
 clear Hc
 simp only [List.cons_append, List.nil_append] at H
 refine za rfl (zk rfl (zb (zx (ze (za rfl (zf rfl (za rfl (yJ rfl rfl (fun h => ?_) (fun h => ?_)))))))))
 ·refine zb (zq rfl (ze (za rfl (yZ (c := [.slice _ _ _, .slice _ _ _]) bf36 rfl (za rfl (zh (za rfl (zh (za rfl (qO (vs := [.slice _ _ _, .slice _ _ _]) H sz36 rfl rfl rfl rfl rfl (by omega) (fun s9 H => ?_)))))))))))
  refine za rfl (zh (zb (zu (zn (⟨by omega, b10, rfl, rfl, rfl, rfl, ?_⟩)))))
  exact (H.sub (L' := [(b10, .cells [.slice none 0 0, .slice none 0 0] 36)]) (.cons _ (.cons _ (.cons _ (.cons_cons _ (List.nil_sublist _)))))).up (by omega)
 refine zb (zv rfl (zD (zj (zF (za rfl (z6 H zf36 (by omega) (fun b16 s10 H => ?_)))))))
 refine zb (⟨by omega, _, b10, b13, b16, b31, E, yf ⟨rfl, rfl, rfl, rfl, rfl, trivial⟩, hg, hk, by omega, hRc, ?_⟩)
 have H2 := H.sub (L' := [(b16, _), (b31, _), (b13, _), (b10, _)]) (.cons_cons _ (.cons_cons _ (.cons _ (.cons_cons _ (.cons_cons _ (List.nil_sublist _))))))
 exact (HL.perm H2 (List.Perm.cons _ (List.Perm.swap _ _ _))).up (by omega)
end Go.Proofs.YtdejleegamcioaaGreat
namespace Go.Proofs.YtdejleegamcioaaGreat
open Go Go.M
theorem qX : offF Tryz.prog 36 0 = some 0 := by kernel_rfl
theorem of36_1 : offF Tryz.prog 36 1 = some 1 := by kernel_rfl
theorem pf99_0 : partF Tryz.prog 99 0 = some (some (none), 0) := by kernel_rfl
theorem qe : ys Tryz.prog 31 = some (none) := by kernel_rfl
theorem sh36 : ys Tryz.prog 36 = some (some 2) := by kernel_rfl
theorem sz103 : xe Tryz.prog 103 = some 1 := by kernel_rfl
theorem sz22 : xe Tryz.prog 22 = some 1 := by kernel_rfl
theorem zf103 : zeroF Tryz.prog 103 = some [.nilFunc] := by kernel_rfl
theorem zf25 : zeroF Tryz.prog 25 = some [.slice none 0 0] := by kernel_rfl
set_option maxHeartbeats 4000000 in
set_option maxRecDepth 10000 in
theorem tail_ok {I : yb} (hI : Plain I) {s s2 : St} {G : FF} {w bad : Int} {js : List (Int × Int)} {may : List Sp} (hm : y0 may) (hw0 : 0 < w) (hw1 : w < 65536) (hbb : (bb js bad may w).1 < 65536) {b10 bK b16 bS r cS n0 : Nat} {E : List Ent} {ks : List Int} (hg : Good js bad may E) (hk : w ∈ yH E) (hks : ∀ x ∈ ks, x ∈ yH E) (hkl : ks.length ≤ 10000000) (hcS : ks.length ≤ cS / 2)
  (H : HL [] s s2 [(b16, .cells [.slice (some ⟨bS, 0, none⟩) ks.length cS, .slice none 0 0] 36), (bS, .cells (yo ks) 23), (bK, .cells [.map (some r)] 96), (r, qq E), (b10, .cells [.slice none 0 0, .slice none 0 0] 36)] n0) (hroom : s.next + (n0 + 2 * ks.length + 400000) ≤ zo) :
  xD Tryz.prog I leastTail (lay G [(0, .int .i64 w), (10, ptr b10), (13, ptr bK), (15, .int .i64 (bb js bad may w).1), (16, ptr b16)]) s2
   (retQ Tryz.prog Tryz.f12.results.toList fun v' s' => ∃ (D : Hp') (sx p1 p2 : Slc), v' = .tuple ⟨[sx.v, .int .i64 (bb js bad may w).1, .agg ⟨[p1.v, p2.v]⟩, .int .i64 0]⟩ ∧ HL [] s s' D (n0 + 2 * ks.length + 400000) ∧ SlG D 62 10 sx.v ((tk js bad may (w.toNat + 1) w).map Sp.cells) ∧ SlG D 23 1 p1.v (ks.map dc) ∧ SlG D 3 1 p2.v ((ks.map fun q => (bb js bad may q).1).map dc)) := by
 have hrg := yR (js := js) (bad := bad) (may := may) w
 have hkb : b16 ≠ b10 := by have hd := H.dist; simp only [List.pairwise_cons, List.mem_cons, List.not_mem_nil, or_false, forall_eq_or_imp, forall_eq] at hd; omega
 refine zx (ze (za rfl (zg qX rfl (za rfl (zl qe rfl H.own0 rfl (za rfl (z7 un31 rfl rfl rfl (za rfl (xL (zb (zL (yB (fun k F s1 => ∃ (G : FF) (i : Nat) (D2 : Hp') (so : Slc) (ls : List Int), F = lay G [(0, .int .i64 w), (10, ptr b10), (13, ptr bK), (15, .int .i64 (bb js bad may w).1), (16, ptr b16), (55, .slice (some ⟨bS, 0, none⟩) ks.length cS), (56, .int .i64 (ks.length : Int)), (57, .int .i64 (i : Int))] ∧ HL [] s s1 ([(b16, .cells [.slice (some ⟨bS, 0, none⟩) ks.length cS, so.v] 36), (bS, .cells (yo ks) 23), (bK, .cells [.map (some r)] 96), (r, qq E), (b10, .cells [.slice none 0 0, .slice none 0 0] 36)] ++ D2) (n0 + 2 * i) ∧ Own 3 1 D2 so.v (yo ls) ls.length ∧ ls = (ks.take i).map (fun q => (bb js bad may q).1) ∧ ls.length = i ∧ i ≤ ks.length ∧ k = ks.length - i) ?_ ks.length _ _ ?_))))))))))))
 rotate_left
 ·exact ⟨_, 0, [], ⟨none, 0, 0⟩, [], yf ⟨rfl, rfl, rfl, rfl, rfl, rfl, rfl, rfl, trivial⟩, H, .nil, by simp, rfl, by omega, by omega⟩
 rintro k F s1 ⟨G, i, D2, so, ls, rfl, H, ho, hls, hli, hi, rfl⟩
 refine ze (za rfl (yg rfl rfl (fun h => ?_) (fun h => ?_)))
 ·refine zb (zx (zq rfl (zD (zj (zx (zL (ze (za rfl (zB qL rfl rfl (by omega) (by omega) (za rfl (zl yx rfl H.own1 (qJ (k := i) (by omega) (by omega)) (za rfl (zk rfl (zb ?_))))))))))))))
  refine zF (za rfl (zg of36_1 rfl (za rfl (zl yW rfl H.own0 rfl (za rfl (zl sh96 rfl H.own2 rfl (za rfl (zf rfl ?_))))))))
  obtain ⟨e, hfe⟩ := find_of_key (hks (ks.getD i 0) (zR (by omega)))
  refine za rfl (op_lookupSome (e := e) un96 un23 rfl rfl H.own3 hfe (za rfl (op_field pf99_0 rfl rfl (za rfl (yd (c := [.int _ _]) H sl22 rfl rfl (by omega) (fun b67 s1 H => ?_))))))
  have hgt := H.own0
  have H := HL.swap (A := [_, _, _, _, _]) (B := D2) H.drop0
  refine za rfl (xn H ho sl22 xE rfl rfl rfl (xa hgt rfl) (by decide) rfl rfl (by omega) (by omega) (fun b68 s68 H ho => ?_))
  refine za rfl (zg of36_1 rfl (za rfl (qp (vs := [.slice _ _ _]) H sz22 rfl rfl rfl rfl rfl (by omega) (fun s2 H => ?_))))
  refine zb (zP (zj (zF (za rfl (zZ rfl rfl (by unfold zS; omega) (za rfl (zf rfl (zb (zO (⟨ks.length - (i + 1), by omega, _, i + 1, [(b68, .cells (yo ls ++ [.int .i64 e.n]) 3)], ⟨some ⟨b68, 0, none⟩, ls.length + 1, 2 * (ls.length + 1) + 1⟩, ls ++ [e.n], yf ⟨rfl, rfl, rfl, rfl, rfl, rfl, rfl, rfl, trivial⟩, ?_, ?_, ?_, by simp; omega, by omega, rfl⟩))))))))))
  ·exact (HL.swap (A := [_]) (B := [_, _, _, _, _]) H).up (by omega)
  ·rw [ints_append, List.length_append]
   exact ho
  ·rw [List.take_succ_eq_append_getElem (show i < ks.length by omega), List.map_append, ← hls]
   have hv := hg.val e (of_find hfe).1
   rw [(of_find hfe).2] at hv
   simp only [List.map_cons, List.map_nil, List.append_cancel_left_eq, List.cons.injEq, and_true]
   have he : e.n = (bb js bad may (ks.getD i 0)).1 := congrArg Prod.fst hv
   rw [he]
   simp [List.getD_eq_getElem?_getD, List.getElem?_eq_getElem (show i < ks.length by omega)]
 refine zb (zx (zv rfl (yi (zU (ye (z8 (zj (ze (za rfl (z6 H zf25 (by omega) (fun b20 s3 H => ?_)))))))))))
 refine zb (ze (za rfl (z6 H zf103 (by omega) (fun b21 s4 H => ?_))))
 refine zb (ze (za rfl (op_makeFunc (za rfl (zX (vs := [_]) H sz103 rfl rfl rfl rfl rfl (by omega) (fun s5 H => ?_))))))
 refine zb (ze (za rfl (zl sh103 rfl H.own0 rfl (za rfl (zf rfl (za rfl (zy rfl fc44 rfl ?_)))))))
 have hst : TkSt _ r bK b20 b21 E [] ⟨none, 0, 0⟩ [] := ⟨H.own4, H.lt4, H.own0, H.lt0, H.own5, H.lt5, (by intro p hp; rw [List.mem_singleton] at hp; subst hp; exact ⟨H.own1, H.lt1, (H.own (b20, .cells [.slice none 0 0] 25) (by simp)).2.2.1⟩), by simp, .nil⟩
 obtain ⟨_, s9, hr, D3, so3, rfl, Hc, ho3⟩ := take_ok hI hm hg (w.toNat + 1) w hw0 (by omega) hk hbb _ [] ⟨none, 0, 0⟩ [] H.fine hst (by simp; omega) (by have := H.most; omega)
 refine ⟨_, _, hr, ?_⟩
 clear hr
 have H := HL.callW (A := [_]) (L := _ :: _ :: _ :: _ :: _ :: _ :: D2) (HL.mid (A := [_]) (B := [_]) (C := _ :: _ :: _ :: _ :: _ :: D2) H) Hc (by intro b hb; simp only [List.map_nil, List.mem_singleton] at hb; subst hb; exact ⟨_, List.mem_singleton.mpr rfl⟩) (by intro p hp; rw [List.mem_singleton] at hp; subst hp; simp)
 clear Hc
 have H := HL.mid (A := _ :: D3) (B := [_, _, _, _, _, _]) (C := D2) H
 simp only [List.cons_append, List.nil_append] at H
 refine zb (yy [⟨0, 0, .light, [2]⟩, ⟨1, 0, .light, [0, 2]⟩, ⟨2, 0, .light, [0]⟩, ⟨3, 1, .light, [2]⟩, ⟨4, 11, .light, [2]⟩, ⟨5, 31, .whole, []⟩, ⟨6, 63, .light, []⟩] (by kernel_rfl) (by kernel_rfl) (zG rfl rfl sh25 rfl H.own6 (by exact H.lim6 (by omega)) rfl (zd rfl rfl (zf rfl ⟨rfl, (yV rfl rfl sh36 rfl H.own1 (by exact H.lim1 (by omega)) rfl (zd rfl rfl (zT rfl ⟨rfl, (zd rfl rfl (zk rfl ⟨rfl, (dr_store5 (vs := [.slice _ _ _, .slice _ _ _]) (fr := []) H rfl rfl sz36 rfl rfl rfl rfl rfl rfl (by have hd := H.dist; simp only [List.pairwise_cons, List.mem_cons, List.not_mem_nil, or_false, forall_eq_or_imp, forall_eq, false_imp_iff, implies_true] at hd ⊢; try omega) (by omega) (fun s6 H => ?_))⟩))⟩)))⟩))))
 refine zd rfl rfl (zh ⟨rfl, (zV (zu (zp (end_ttct rfl rfl sh36 rfl H.own5 rfl rfl ?_))))⟩)
 have hi2 : i = ks.length := by omega
 rw [hi2, List.take_length] at hls
 refine ⟨_, so3, ⟨some ⟨bS, 0, none⟩, ks.length, cS⟩, so, rfl, H.up (by omega), ?_, ?_, ?_⟩
 ·refine (Own.slG (es := (tk js bad may (w.toNat + 1) w).map Sp.cells) (by intro x hx; obtain ⟨y, _, rfl⟩ := List.mem_map.mp hx; rfl) (by rw [List.length_map]; rw [List.nil_append] at ho3; exact ho3)).mono ?_
  intro p hp
  simp only [List.mem_cons, List.mem_append, hp, true_or, or_true]
 ·exact SlG.block bS 0 cS (yo ks) (by simp [Slc.v]) (by simp only [List.mem_cons, List.mem_append, true_or, or_true]) (by simpa using hcS) (fun k hk => by rw [ints_flat]; exact flat_get (by intro x hx; obtain ⟨y, _, rfl⟩ := List.mem_map.mp hx; rfl) hk)
 ·rw [← hls]
  refine (Own.slG (es := ls.map dc) (by intro x hx; obtain ⟨y, _, rfl⟩ := List.mem_map.mp hx; rfl) (by rw [List.length_map, ← ints_flat]; exact ho)).mono ?_
  intro p hp
  simp only [List.mem_cons, List.mem_append, hp, true_or, or_true]
end Go.Proofs.YtdejleegamcioaaGreat
namespace Go.Proofs.YtdejleegamcioaaGreat
open Go Go.M
def keysL : List MapEntry → Nat → Option (List Int)
 | [], _ => some []
 | e :: l, i => match e.key with
  | .int .i64 k => match Nat.beq e.born i, keysL l (i + 1) with
   | true, some r => some (k :: r)
   | _, _ => none
  | _ => none
def insI (x : Int) : List Int → List Int
 | [] => [x]
 | y :: l => match ile x y with
  | true => x :: y :: l
  | false => y :: insI x l
def yO : List Int → List Int
 | [] => []
 | x :: l => insI x (yO l)
def segS (v13 v16 : Value) (s : St) : Option St :=
 match v13, v16 with
 | .pointer (some ⟨bK, 0, none⟩), .pointer (some ⟨b16, 0, none⟩) =>
  match s.get bK, s.get b16 with
  | some (.cells [.map (some r)] _), some (.cells [.slice none 0 0, v2] 36) =>
   match s.get r with
   | some (.map es clock) => match keysL es.toList 0, Nat.beq clock es.size && s.may b16 && Nat.blt (s.next + 2 * es.size) 281474976710655 && Nat.blt 0 es.size && Nat.blt es.size 1000000 && Go.M.plainCell v2 with
    | some ks, true => some (({ s with next := s.next + 2 * es.size }.new (.cells (yo (yO ks)) 23)).put b16 (some (.cells [.slice (some ⟨s.next + 2 * es.size, 0, none⟩) es.size (2 * es.size + 1), v2] 36)))
    | _, _ => none
   | _ => none
  | _, _ => none
 | _, _ => none
def yG : yb := fun _ => none
noncomputable def qZ (n : Nat) (args : Array Value) (s : St) : CallOut :=
 match Nat.beq (xg args.toList 0) 4 with
 | true => match yh Tryz.prog yG n y6 (Fr.make args 78) s with
  | .ret a s' => finish Tryz.prog Tryz.f12 a s'
  | .normal a s1 => match segS (a.get 13) (a.get 16) s1 with
   | some s2 => match yh Tryz.prog yG n leastTail a s2 with
    | .ret a s' => finish Tryz.prog Tryz.f12 a s'
    | .normal a s' => finish Tryz.prog Tryz.f12 a s'
    | _ => .stuck
   | none => .stuck
  | _ => .stuck
 | false => .stuck
def Ever (args : Array Value) (s : St) (v : Value) (s' : St) : Prop := ∃ N, ∀ n, N ≤ n → qZ n args s = .ret v s'
theorem ever_one {args : Array Value} {s : St} {v v2 : Value} {s1 s2 : St} (h1 : Ever args s v s1) (h2 : Ever args s v2 s2) : v = v2 ∧ s1 = s2 := by
 obtain ⟨n1, h1⟩ := h1
 obtain ⟨n2, h2⟩ := h2
 have := (h1 (n1 + n2) (by omega)).symm.trans (h2 (n1 + n2) (by omega))
 simp only [CallOut.ret.injEq] at this
 exact this
open Classical in
noncomputable def leastI (args : Array Value) (s : St) : CallOut :=
 if h : ∃ p : Value × St, Ever args s p.1 p.2 then .ret h.choose.1 h.choose.2 else .stuck
theorem leastI_eq {args : Array Value} {s : St} {v : Value} {s' : St} (h : Ever args s v s') : leastI args s = .ret v s' := by
 have hx : ∃ p : Value × St, Ever args s p.1 p.2 := ⟨(v, s'), h⟩
 unfold leastI
 rw [dif_pos hx]
 obtain ⟨e1, e2⟩ := ever_one hx.choose_spec h
 rw [e1, e2]
theorem plain_none : Plain yG := fun _ _ _ => rfl
theorem preN : codeN 78 y6 = true := by kernel_rfl
theorem tailN : codeN 78 leastTail = true := by kernel_rfl
theorem resN : Tryz.f12.results.toList.all (resultB 78) = true := by kernel_rfl
theorem keys_ents : ∀ (E : List Ent) (i : Nat), keysL (ents i E) i = some (yH E)
 | [], _ => rfl
 | e :: E, i => by simp only [ents, keysL, keys_ents E (i + 1), Nat.beq_refl]; rfl
theorem insI_perm (x : Int) : ∀ l, (insI x l).Perm (x :: l)
 | [] => .refl _
 | y :: l => by
  simp only [insI]
  split
  ·exact .refl _
  ·exact (List.Perm.cons y (insI_perm x l)).trans (List.Perm.swap _ _ _)
theorem xv : ∀ l, (yO l).Perm l
 | [] => .refl _
 | x :: l => (insI_perm x (yO l)).trans ((xv l).cons x)
theorem ents_len : ∀ (E : List Ent) (i : Nat), (ents i E).length = E.length
 | [], _ => rfl
 | e :: E, i => by simp only [ents, List.length_cons, ents_len E (i + 1)]
theorem _root_.Go.M.HL.skip {W : List Nat} {s0 s : St} {L : Hp'} {n : Nat} (H : HL W s0 s L n) (k : Nat) : HL W s0 { s with next := s.next + k } L (n + k) :=
 ⟨H.bar, H.prot, H.wfb, H.wfp, by have := H.le; simp only; omega, by have := H.most; simp only; omega, fun p hp => by
  obtain ⟨h1, h2, h3, h4⟩ := H.own p hp
  exact ⟨h1, by simp only; omega, h3, h4⟩, H.dist, H.kept⟩
theorem seg_ok {s s1 : St} {b16 bK r b10 n0 : Nat} {E : List Ent} (H : HL [] s s1 [(b16, .cells [.slice none 0 0, .slice none 0 0] 36), (bK, .cells [.map (some r)] 96), (r, qq E), (b10, .cells [.slice none 0 0, .slice none 0 0] 36)] n0) (hE : 0 < E.length) (hE2 : E.length < 1000000) (hr : s.next + (n0 + 2 * E.length + 1) ≤ zo) :
  ∃ s2 bS, segS (ptr bK) (ptr b16) s1 = some s2 ∧ HL [] s s2 [(b16, .cells [.slice (some ⟨bS, 0, none⟩) (yO (yH E)).length (2 * E.length + 1), .slice none 0 0] 36), (bS, .cells (yo (yO (yH E))) 23), (bK, .cells [.map (some r)] 96), (r, qq E), (b10, .cells [.slice none 0 0, .slice none 0 0] 36)] (n0 + 2 * E.length + 1) := by
 have hm := H.most
 have hmay : s1.may b16 = true := (H.own (b16, .cells [.slice none 0 0, .slice none 0 0] 36) (by simp)).2.2.1
 have hlen : (yO (yH E)).length = E.length := by rw [(xv _).length_eq]; simp [yH]
 have hg := (Nat.blt_eq.mpr (show s1.next + 2 * E.length < 281474976710655 by unfold zo at hr; omega))
 have h1 : Nat.blt 0 E.length = true := Nat.blt_eq.mpr hE
 have h2 : Nat.blt E.length 1000000 = true := Nat.blt_eq.mpr hE2
 have hsz : (⟨ents 0 E⟩ : Array MapEntry).size = E.length := ents_len E 0
 refine ⟨(({ s1 with next := s1.next + 2 * E.length }).new (.cells (yo (yO (yH E))) 23)).put b16 (some (.cells [.slice (some ⟨s1.next + 2 * E.length, 0, none⟩) (yO (yH E)).length (2 * E.length + 1), .slice none 0 0] 36)), s1.next + 2 * E.length, ?_, ?_⟩
 rotate_left
 ·have H2 := (H.skip (2 * E.length)).new (.cells (yo (yO (yH E))) 23) (by unfold zo at *; omega)
  have H3 := H2.put1 (.cells [.slice (some ⟨s1.next + 2 * E.length, 0, none⟩) (yO (yH E)).length (2 * E.length + 1), .slice none 0 0] 36) (by omega)
  exact HL.perm H3 (List.Perm.swap _ _ _)
 ·simp only [segS, H.own0, H.own1, H.own2, qq, keys_ents, hsz, hmay, hg, h1, h2, hlen, Nat.beq_refl, Bool.and_self, Go.M.plainCell]
end Go.Proofs.YtdejleegamcioaaGreat
