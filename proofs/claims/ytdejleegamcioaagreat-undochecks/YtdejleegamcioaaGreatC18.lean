/- The least cleaning of a set: what the program's recursion comes to. -/
/- Which sets come about from a set by splits of sets that need work. -/
/- The state in which the recursion runs. -/
/- The recursion of the least cleaning: what it returns and what it keeps. -/
/- The splits of the least cleaning, one after the other. -/
/- The splits of the least cleaning: the closure that takes them. -/
/- What the least cleaning breaks; small facts for the statements. -/
/- What is asked of the examples. -/
/- How many blocks the recursion makes at most. -/
/- undo.Least, up to the loop over what is known. -/
/- undo.Least, behind the loop over what is known. -/
/- undo.Least as a function of this machine: the loop over the map in one step. -/
/- The reference's least cleaning, in plain words. -/
import Derived.Test.YtdejleegamcioaaGreatC17
namespace Go.Proofs.YtdejleegamcioaaGreat
open Go Go.M
theorem bv_part {W P : BitVec 64} (h : P &&& ~~~ W = 0#64) (hw : W.toNat < 65536) : P.toNat + (W &&& ~~~ P).toNat = W.toNat := by
 have h1 : W &&& P = P := by
  have e : P = (P &&& W) ||| (P &&& ~~~ W) := by
   apply BitVec.eq_of_getLsbD_eq
   intro i hi
   simp only [BitVec.getLsbD_or, BitVec.getLsbD_and, BitVec.getLsbD_not, hi, decide_true, Bool.true_and]
   cases P.getLsbD i <;> cases W.getLsbD i <;> rfl
  rw [h] at e
  rw [BitVec.and_comm]
  conv => rhs; rw [e]
  simp
 have h2 : (W &&& P) + (W &&& ~~~ P) = W := by
  have hz : (W &&& P) &&& (W &&& ~~~ P) = 0#64 := by
   apply BitVec.eq_of_getLsbD_eq
   intro i hi
   simp only [BitVec.getLsbD_and, BitVec.getLsbD_not, hi, decide_true, Bool.true_and, BitVec.getLsbD_zero]
   cases P.getLsbD i <;> cases W.getLsbD i <;> rfl
  rw [BitVec.add_eq_or_of_and_eq_zero _ _ hz]
  apply BitVec.eq_of_getLsbD_eq
  intro i hi
  simp only [BitVec.getLsbD_or, BitVec.getLsbD_and, BitVec.getLsbD_not, hi, decide_true, Bool.true_and]
  cases P.getLsbD i <;> cases W.getLsbD i <;> rfl
 rw [h1] at h2
 have hP : P.toNat ≤ W.toNat := by
  rw [← h1, BitVec.toNat_and]; exact Nat.and_le_left
 have hR : (W &&& ~~~ P).toNat ≤ W.toNat := by rw [BitVec.toNat_and]; exact Nat.and_le_left
 have h3 : (P + (W &&& ~~~ P)).toNat = W.toNat := by rw [h2]
 rw [BitVec.toNat_add, Nat.mod_eq_of_lt (by omega)] at h3
 exact h3
theorem wrap_zero {n : Nat} (h : n < 18446744073709551616) (hz : IntKind.i64.wrap (n : Int) = 0) : n = 0 := by
 unfold IntKind.wrap at hz
 simp only [show IntKind.i64.bits = 64 from rfl, show IntKind.i64.signed = true from rfl, Bool.true_and] at hz
 split at hz <;> omega
theorem yR {w p : Int} (h : y1 w p = true) (hp : p < 9223372036854775808) : 0 < p ∧ p < w ∧ 0 < zJ w p ∧ zJ w p < w ∧ w < 65536 ∧ zJ w p = w - p := by
 simp only [y1, Bool.and_eq_true, decide_eq_true_eq] at h
 obtain ⟨⟨⟨⟨h1, h2⟩, h3⟩, h4⟩, h5⟩ := h
 obtain ⟨a, rfl⟩ := Int.eq_ofNat_of_zero_le (Int.le_of_lt h1)
 obtain ⟨b, rfl⟩ := Int.eq_ofNat_of_zero_le (Int.le_of_lt h3)
 have ha := xC (a := a) (by omega)
 have hb := xC (a := b) (by omega)
 have hz : BitVec.ofInt 64 (b : Int) &&& ~~~ BitVec.ofInt 64 (a : Int) = 0#64 := by
  have := wrap_zero (BitVec.isLt _) h4
  exact BitVec.eq_of_toNat_eq (by rw [this]; rfl)
 have hs := bv_part hz (by rw [ha]; omega)
 rw [ha, hb] at hs
 have hr : zJ (a : Int) (b : Int) = ((a : Int) - b) := by
  unfold zJ bitsI
  simp only
  rw [wrap_in ⟨by omega, by omega⟩]
  omega
 rw [hr]
 omega
section
variable (js : List (Int × Int)) (bad : Int) (may : List Sp)
def xv (v : Int → Int) (S : Int) (acc : Int × Sp) (m : Sp) : Int × Sp :=
 if m.w ≠ S then acc
 else if v m.p < 65536 ∧ v (zJ S m.p) < 65536 ∧ 1 + v m.p + v (zJ S m.p) < acc.1 then (1 + v m.p + v (zJ S m.p), m)
 else acc
def bst : Nat → Int → Int × Sp
 | 0, _ => (0, default)
 | f + 1, S => if yj S bad 0 js = true then may.foldl (xv (fun x => (bst f x).1) S) (65536, default) else (0, default)
def bb (S : Int) : Int × Sp := bst js bad may (S.toNat + 1) S
def yZ : Prop := ∀ m ∈ may, y1 m.w m.p = true ∧ m.p < 9223372036854775808
variable {js bad may}
theorem stepB_congr {v v' : Int → Int} {S : Int} {acc : Int × Sp} {m : Sp} (h : m.w = S → v m.p = v' m.p ∧ v (zJ S m.p) = v' (zJ S m.p)) : xv v S acc m = xv v' S acc m := by
 unfold xv
 by_cases hw : m.w = S
 ·rw [(h hw).1, (h hw).2]
 ·rw [if_pos hw, if_pos hw]
theorem foldl_congr {v v' : Int → Int} {S : Int} : ∀ {l : List Sp} {acc : Int × Sp}, (∀ m ∈ l, m.w = S → v m.p = v' m.p ∧ v (zJ S m.p) = v' (zJ S m.p)) → l.foldl (xv v S) acc = l.foldl (xv v' S) acc
 | [], _, _ => rfl
 | m :: l, acc, h => by
  simp only [List.foldl_cons]
  rw [stepB_congr (h m (by simp)), foldl_congr fun x hx => h x (by simp [hx])]
theorem bst_fuel (hm : yZ may) : ∀ (f f' : Nat) (S : Int), 0 < S → S.toNat < f → S.toNat < f' → bst js bad may f S = bst js bad may f' S
 | 0, _, S, _, h, _ => by omega
 | _, 0, S, _, _, h => by omega
 | f + 1, f' + 1, S, h0, h1, h2 => by
  simp only [bst]
  split
  ·refine foldl_congr fun m hmm hw => ?_
   obtain ⟨hs, hp⟩ := hm m hmm
   obtain ⟨a1, a2, a3, a4, a5, a6⟩ := yR hs hp
   subst hw
   exact ⟨by rw [bst_fuel hm f f' m.p a1 (by omega) (by omega)], by rw [bst_fuel hm f f' (zJ m.w m.p) a3 (by omega) (by omega)]⟩
  ·rfl
theorem bb_eq (hm : yZ may) {S : Int} (h0 : 0 < S) : bb js bad may S = if yj S bad 0 js = true then may.foldl (xv (fun x => (bb js bad may x).1) S) (65536, default) else (0, default) := by
 show bst js bad may (S.toNat + 1) S = _
 rw [bst]
 split
 ·refine foldl_congr fun m hmm hw => ?_
  obtain ⟨hs, hp⟩ := hm m hmm
  obtain ⟨a1, a2, a3, a4, a5, a6⟩ := yR hs hp
  subst hw
  exact ⟨by rw [bst_fuel hm m.w.toNat (m.p.toNat + 1) m.p a1 (by omega) (by omega)]; rfl, by rw [bst_fuel hm m.w.toNat ((zJ m.w m.p).toNat + 1) (zJ m.w m.p) a3 (by omega) (by omega)]; rfl⟩
 ·rfl
theorem stepB_range {v : Int → Int} {S : Int} {acc : Int × Sp} {m : Sp} (hv : ∀ x, 0 ≤ v x) (h : 0 ≤ acc.1 ∧ acc.1 ≤ 65536) : 0 ≤ (xv v S acc m).1 ∧ (xv v S acc m).1 ≤ 65536 := by
 unfold xv
 have h1 := hv m.p
 have h2 := hv (zJ S m.p)
 split
 ·exact h
 ·split
  ·next hc => simp only; omega
  ·exact h
theorem foldl_range {v : Int → Int} {S : Int} (hv : ∀ x, 0 ≤ v x) : ∀ {l : List Sp} {acc : Int × Sp}, (0 ≤ acc.1 ∧ acc.1 ≤ 65536) → 0 ≤ (l.foldl (xv v S) acc).1 ∧ (l.foldl (xv v S) acc).1 ≤ 65536
 | [], _, h => h
 | m :: l, acc, h => by
  simp only [List.foldl_cons]
  exact foldl_range hv (stepB_range hv h)
theorem bst_range : ∀ (f : Nat) (S : Int), 0 ≤ (bst js bad may f S).1 ∧ (bst js bad may f S).1 ≤ 65536
 | 0, _ => by simp [bst]
 | f + 1, S => by
  simp only [bst]
  split
  ·exact foldl_range (fun x => (bst_range f x).1) (by simp)
  ·simp
theorem yY (S : Int) : 0 ≤ (bb js bad may S).1 ∧ (bb js bad may S).1 ≤ 65536 := bst_range _ _
end
end Go.Proofs.YtdejleegamcioaaGreat
namespace Go.Proofs.YtdejleegamcioaaGreat
open Go Go.M
section
variable (js : List (Int × Int)) (bad : Int) (may : List Sp)
inductive Rch (w : Int) : Int → Prop
 | self : Rch w w
 | part {S : Int} {m : Sp} (h : Rch w S) (hn : yj S bad 0 js = true) (hm : m ∈ may) (hw : m.w = S) : Rch w m.p
 | rest {S : Int} {m : Sp} (h : Rch w S) (hn : yj S bad 0 js = true) (hm : m ∈ may) (hw : m.w = S) : Rch w (zJ S m.p)
variable {js bad may}
end
end Go.Proofs.YtdejleegamcioaaGreat
namespace Go.Proofs.YtdejleegamcioaaGreat
open Go Go.M
abbrev ptr (b : Nat) : Value := .pointer (some ⟨b, 0, none⟩)
section
variable {s s' : St} {r bK bJ bB bM bF : Nat} {vj vm : Value} {bad : Int} {js : List (Int × Int)} {may : List Sp} {E E' : List Ent} {L : Hp'} {n : Nat}
theorem Sl.heap {s1 s2 : St} {e : TypeId} {sz : Nat} {v : Value} {es : List (List Value)} (h : Sl s1 e sz v es) (hh : s2.heap = s1.heap) (hn : s2.next = s1.next) : Sl s2 e sz v es := by
 cases h with
 | nil c hv hl => exact .nil c hv hl
 | block b off cap c hv hg hb hcap hc => exact .block b off cap c hv (by simp only [St.get, hh] at hg ⊢; exact hg) (by rw [hn]; exact hb) hcap hc
theorem Fine.narrow {s : St} (h : Fine s) {X : List Nat} (hX : ∀ p ∈ X, p < s.next) : Fine { s with prot := X ++ s.prot } :=
 ⟨h.wfb, fun p hp => by
  rcases List.mem_append.mp hp with hp | hp
  ·exact hX p hp
  ·exact h.wfp p hp⟩
end
end Go.Proofs.YtdejleegamcioaaGreat
namespace Go.Proofs.YtdejleegamcioaaGreat
open Go Go.M
theorem fc42 : yp Tryz.prog 42 = true := by kernel_rfl
theorem sh96 : yF Tryz.prog 96 = some (none) := by kernel_rfl
theorem un96 : Tryz.prog.underlying 96 = some (.map 23 99) := by kernel_rfl
theorem yH {may : List Sp} {i : Nat} {m : Sp} (h : i < may.length) (hm : m ∈ may.take (i + 1)) : m ∈ may.take i ∨ m = may.getD i default := by
 rw [List.take_succ_eq_append_getElem h, List.mem_append, List.mem_singleton] at hm
 rcases hm with hm | hm
 ·exact .inl hm
 ·right; rw [hm]; simp [List.getD_eq_getElem?_getD, List.getElem?_eq_getElem h]
end Go.Proofs.YtdejleegamcioaaGreat
namespace Go.Proofs.YtdejleegamcioaaGreat
open Go Go.M
section
variable {js : List (Int × Int)} {bad : Int} {may : List Sp}
theorem fold_from {v : Int → Int} {S : Int} : ∀ (l : List Sp) (acc : Int × Sp), l.foldl (xv v S) acc = acc ∨ ∃ m ∈ l, m.w = S ∧ v m.p < 65536 ∧ v (zJ S m.p) < 65536 ∧ l.foldl (xv v S) acc = (1 + v m.p + v (zJ S m.p), m)
 | [], acc => .inl rfl
 | m :: l, acc => by
  simp only [List.foldl_cons]
  rcases fold_from l (xv v S acc m) with h | ⟨x, hx, h⟩
  ·rw [h]
   unfold xv
   by_cases hw : m.w = S
   ·rw [if_neg (by simpa using hw)]
    split
    ·next hc => exact .inr ⟨m, by simp, hw, hc.1, hc.2.1, rfl⟩
    ·exact .inl rfl
   ·rw [if_pos hw]; exact .inl rfl
  ·exact .inr ⟨x, by simp [hx], h⟩
theorem bb_split (hm : yZ may) {S : Int} (h0 : 0 < S) (h1 : 0 < (bb js bad may S).1) (h2 : (bb js bad may S).1 < 65536) : yj S bad 0 js = true ∧ (bb js bad may S).2 ∈ may ∧ (bb js bad may S).2.w = S ∧ (bb js bad may (bb js bad may S).2.p).1 < 65536 ∧ (bb js bad may (zJ S (bb js bad may S).2.p)).1 < 65536 ∧
  (bb js bad may S).1 = 1 + (bb js bad may (bb js bad may S).2.p).1 + (bb js bad may (zJ S (bb js bad may S).2.p)).1 := by
 have he := bb_eq (js := js) (bad := bad) hm h0
 by_cases hn : yj S bad 0 js = true
 ·rw [if_pos hn] at he
  rcases fold_from (v := fun x => (bb js bad may x).1) (S := S) may (65536, default) with h | ⟨m, hmm, hw, ha, hb, h⟩
  ·rw [he, h] at h2; simp at h2
  ·rw [h] at he
   rw [he]
   exact ⟨hn, hmm, hw, ha, hb, rfl⟩
 ·rw [if_neg hn] at he
  rw [he] at h1
  simp at h1
def tk (js : List (Int × Int)) (bad : Int) (may : List Sp) : Nat → Int → List Sp
 | 0, _ => []
 | f + 1, S => if 0 < (bb js bad may S).1 then (bb js bad may S).2 :: (tk js bad may f (bb js bad may S).2.p ++ tk js bad may f (zJ S (bb js bad may S).2.p)) else []
end
section
variable {s s' : St} {r bK bO bT : Nat} {E : List Ent} {D D' : Hp'} {so so' : Slc} {l l' : List Sp} {L : Hp'} {n : Nat}
end
end Go.Proofs.YtdejleegamcioaaGreat
namespace Go.Proofs.YtdejleegamcioaaGreat
open Go Go.M
theorem tk_len {js : List (Int × Int)} {bad : Int} {may : List Sp} (hm : yZ may) : ∀ (f : Nat) (S : Int), 0 < S → S.toNat < f → (bb js bad may S).1 < 65536 → ((tk js bad may f S).length : Int) = (bb js bad may S).1
 | 0, S, _, h, _ => by omega
 | f + 1, S, h0, h1, h2 => by
  have hr := yY (js := js) (bad := bad) (may := may) S
  simp only [tk]
  split
  ·next hp =>
   obtain ⟨hn, hx, hw, ha, hb, he⟩ := bb_split hm h0 hp h2
   obtain ⟨hs, hpb⟩ := hm _ hx
   obtain ⟨q1, q2, q3, q4, q5, q6⟩ := yR hs hpb
   rw [hw] at q2 q3 q4
   have i1 := tk_len hm f (bb js bad may S).2.p q1 (by omega) ha
   have i2 := tk_len hm f (zJ S (bb js bad may S).2.p) q3 (by omega) hb
   simp only [List.length_cons, List.length_append]
   omega
  ·simp only [List.length_nil]; omega
end Go.Proofs.YtdejleegamcioaaGreat
namespace Go.Proofs.YtdejleegamcioaaGreat
open Go Go.M
theorem bit_nat (x k : Nat) : bit (x : Int) k = x.testBit k := by
 unfold bit
 rw [Nat.testBit_eq_decide_div_mod_eq]
 congr 1
 have e : ((x : Int) / 2 ^ k) = ((x / 2 ^ k : Nat) : Int) := by simp
 rw [e]
 apply propext
 constructor <;> intro h <;> omega
section
variable {js : List (Int × Int)} {bad : Int} {may : List Sp}
end
theorem valid_split {w p : Int} (h : qi w p = true) : y1 w p = true ∧ p < 9223372036854775808 := by
 simp only [qi, Bool.and_eq_true, decide_eq_true_eq] at h
 obtain ⟨⟨⟨⟨h1, h2⟩, h3, h4⟩, h5⟩, h6⟩ := h
 refine ⟨?_, by omega⟩
 obtain ⟨a, rfl⟩ := Int.eq_ofNat_of_zero_le (show 0 ≤ w by omega)
 obtain ⟨b, rfl⟩ := Int.eq_ofNat_of_zero_le (show 0 ≤ p by omega)
 have ha := xC (a := a) (by omega)
 have hb := xC (a := b) (by omega)
 have hz : BitVec.ofInt 64 (b : Int) &&& BitVec.ofInt 64 (a : Int) = BitVec.ofInt 64 (b : Int) := by
  apply BitVec.eq_of_toNat_eq
  rw [andI_nat (by omega) (by omega)] at h5
  rw [BitVec.toNat_and, ha, hb]
  omega
 have hz2 : BitVec.ofInt 64 (b : Int) &&& ~~~ BitVec.ofInt 64 (a : Int) = 0#64 := by
  rw [← hz, BitVec.and_assoc]
  simp
 have hr : zJ (b : Int) (a : Int) = 0 := by
  unfold zJ bitsI
  simp only
  rw [hz2]
  decide
 simp only [y1, Bool.and_eq_true, decide_eq_true_eq]
 exact ⟨⟨⟨⟨by omega, by omega⟩, by omega⟩, hr⟩, h6⟩
end Go.Proofs.YtdejleegamcioaaGreat
namespace Go.Proofs.YtdejleegamcioaaGreat
open Go Go.M
def LivesC (I : yh) : Prop := ∀ (s : St), Fine s → s.next + 1000000 ≤ zp → ∃ v' s', yJ Tryz.prog I 17 #[] s v' s' ∧ (v' = .bool true ∧ HL [] s s' [] 1000000)
theorem SlG.slc {D : Hp'} {e : TypeId} {sz : Nat} {x : Slc} {es : List (List Value)} (h : SlG D e sz x.v es) : x.n = es.length := by
 cases h with
 | nil c hv hl => subst hl; simp only [Slc.v, Value.slice.injEq] at hv; exact hv.2.1
 | block b off cap c hv => simp only [Slc.v, Value.slice.injEq] at hv; exact hv.2.1
end Go.Proofs.YtdejleegamcioaaGreat
namespace Go.Proofs.YtdejleegamcioaaGreat
open Go Go.M
section
end
section
variable {P : Program} {I : yh} {F : FF} {s : St} {Q : FF → St → Prop} {d : Option Tmp} {ty : TypeId} {pos : String} {af : Array Edge} {g : Option (Nat × Bool)} {W : List Nat} {s0 : St} {L : Hp'} {n : Nat}
end
end Go.Proofs.YtdejleegamcioaaGreat
namespace Go.Proofs.YtdejleegamcioaaGreat
open Go Go.M
theorem bf36 : buildF Tryz.prog 36 = some ([.slice none 0 0, .slice none 0 0], [(0, 1), (1, 1)]) := by kernel_rfl
theorem fc40 : yp Tryz.prog 40 = true := by kernel_rfl
theorem sz36 : xD Tryz.prog 36 = some 2 := by kernel_rfl
theorem zf36 : zeroF Tryz.prog 36 = some [.slice none 0 0, .slice none 0 0] := by kernel_rfl
def takeS : Nat → Code → Code
 | 0, _ => .skip
 | 1, .seq x _ => x
 | n + 2, .seq x y => .seq x (takeS (n + 1) y)
 | _ + 1, c => c
def dropS : Nat → Code → Code
 | 0, c => c
 | n + 1, .seq _ y => dropS n y
 | _ + 1, c => c
noncomputable def xu : Code := Tryz.f12.body.getD .skip
noncomputable def kb : Code := takeS 8 xu
noncomputable def leastTail : Code := dropS 10 xu
theorem nodup_len : ∀ (N : Nat) (l : List Int), l.Nodup → (∀ x ∈ l, 0 < x ∧ x ≤ (N : Int)) → l.length ≤ N
 | 0, l, _, h => by
  cases l with
  | nil => simp
  | cons x l => have := h x (by simp); omega
 | N + 1, l, hn, h => by
  have h1 := nodup_len N (l.filter fun x => decide (x ≠ ((N + 1 : Nat) : Int))) (hn.filter _) (by
   intro x hx
   rw [List.mem_filter] at hx
   have := h x hx.1
   have h2 := hx.2
   simp only [decide_eq_true_eq] at h2
   omega)
  have h2 : l.count ((N + 1 : Nat) : Int) ≤ 1 := List.nodup_iff_count.mp hn _
  have h3 := List.length_eq_countP_add_countP (fun x => decide (x = ((N + 1 : Nat) : Int))) (l := l)
  have h4 : l.countP (fun x => decide (x = ((N + 1 : Nat) : Int))) = l.count ((N + 1 : Nat) : Int) := by
   rw [List.count]
   congr 1
  have h5 : l.countP (fun a => !decide (a = ((N + 1 : Nat) : Int))) = (l.filter fun x => decide (x ≠ ((N + 1 : Nat) : Int))).length := by
   rw [List.countP_eq_length_filter]
   congr 2
   funext x
   simp
  have h6 : l.countP (fun a => decide (¬ decide (a = ((N + 1 : Nat) : Int)) = true)) = l.countP (fun a => !decide (a = ((N + 1 : Nat) : Int))) := by
   congr 1
   funext x
   simp
  omega
end Go.Proofs.YtdejleegamcioaaGreat
namespace Go.Proofs.YtdejleegamcioaaGreat
open Go Go.M
theorem of36_0 : offF Tryz.prog 36 0 = some 0 := by kernel_rfl
theorem of36_1 : offF Tryz.prog 36 1 = some 1 := by kernel_rfl
theorem x5 : yF Tryz.prog 31 = some (none) := by kernel_rfl
theorem sh36 : yF Tryz.prog 36 = some (some 2) := by kernel_rfl
theorem sz22 : xD Tryz.prog 22 = some 1 := by kernel_rfl
end Go.Proofs.YtdejleegamcioaaGreat
namespace Go.Proofs.YtdejleegamcioaaGreat
open Go Go.M
def keysL : List MapEntry → Nat → Option (List Int)
 | [], _ => some []
 | e :: l, i => match e.key with
  | .int .i64 k => match Nat.beq e.born i, keysL l (i + 1) with
   | true, some r => some (k :: r)
   | _, _ => none
  | _ => none
def insI (x : Int) : List Int → List Int
 | [] => [x]
 | y :: l => match ile x y with
  | true => x :: y :: l
  | false => y :: insI x l
def xG : List Int → List Int
 | [] => []
 | x :: l => insI x (xG l)
def segS (v13 v16 : Value) (s : St) : Option St :=
 match v13, v16 with
 | .pointer (some ⟨bK, 0, none⟩), .pointer (some ⟨b16, 0, none⟩) =>
  match s.get bK, s.get b16 with
  | some (.cells [.map (some r)] _), some (.cells [.slice none 0 0, v2] 36) =>
   match s.get r with
   | some (.map es clock) => match keysL es.toList 0, Nat.beq clock es.size && s.may b16 && Nat.blt (s.next + 2 * es.size) 281474976710655 && Nat.blt 0 es.size && Nat.blt es.size 1000000 && Go.M.plainCell v2 with
    | some ks, true => some (({ s with next := s.next + 2 * es.size }.new (.cells (yq (xG ks)) 23)).put b16 (some (.cells [.slice (some ⟨s.next + 2 * es.size, 0, none⟩) es.size (2 * es.size + 1), v2] 36)))
    | _, _ => none
   | _ => none
  | _, _ => none
 | _, _ => none
def xF : yh := fun _ => none
noncomputable def leastN (n : Nat) (args : Array Value) (s : St) : CallOut :=
 match Nat.beq (xl args.toList 0) 4 with
 | true => match yl Tryz.prog xF n kb (Fr.make args 78) s with
  | .ret a s' => finish Tryz.prog Tryz.f12 a s'
  | .normal a s1 => match segS (a.get 13) (a.get 16) s1 with
   | some s2 => match yl Tryz.prog xF n leastTail a s2 with
    | .ret a s' => finish Tryz.prog Tryz.f12 a s'
    | .normal a s' => finish Tryz.prog Tryz.f12 a s'
    | _ => .stuck
   | none => .stuck
  | _ => .stuck
 | false => .stuck
def Ever (args : Array Value) (s : St) (v : Value) (s' : St) : Prop := ∃ N, ∀ n, N ≤ n → leastN n args s = .ret v s'
theorem ever_one {args : Array Value} {s : St} {v v2 : Value} {s1 s2 : St} (h1 : Ever args s v s1) (h2 : Ever args s v2 s2) : v = v2 ∧ s1 = s2 := by
 obtain ⟨n1, h1⟩ := h1
 obtain ⟨n2, h2⟩ := h2
 have := (h1 (n1 + n2) (by omega)).symm.trans (h2 (n1 + n2) (by omega))
 simp only [CallOut.ret.injEq] at this
 exact this
open Classical in
noncomputable def leastI (args : Array Value) (s : St) : CallOut :=
 if h : ∃ p : Value × St, Ever args s p.1 p.2 then .ret h.choose.1 h.choose.2 else .stuck
theorem leastI_eq {args : Array Value} {s : St} {v : Value} {s' : St} (h : Ever args s v s') : leastI args s = .ret v s' := by
 have hx : ∃ p : Value × St, Ever args s p.1 p.2 := ⟨(v, s'), h⟩
 unfold leastI
 rw [dif_pos hx]
 obtain ⟨e1, e2⟩ := ever_one hx.choose_spec h
 rw [e1, e2]
theorem insI_perm (x : Int) : ∀ l, (insI x l).Perm (x :: l)
 | [] => .refl _
 | y :: l => by
  simp only [insI]
  split
  ·exact .refl _
  ·exact (List.Perm.cons y (insI_perm x l)).trans (List.Perm.swap _ _ _)
theorem isort_perm : ∀ l, (xG l).Perm l
 | [] => .refl _
 | x :: l => (insI_perm x (xG l)).trans ((isort_perm l).cons x)
end Go.Proofs.YtdejleegamcioaaGreat
namespace Go.Proofs.YtdejleegamcioaaGreat
open Go Go.M
abbrev Inc (l : List Int) : Prop := l.Pairwise (· < ·)
theorem inc_ext : ∀ {l l' : List Int}, Inc l → Inc l' → (∀ x, x ∈ l ↔ x ∈ l') → l = l'
 | [], [], _, _, _ => rfl
 | [], y :: l', _, _, h => absurd ((h y).mpr (by simp)) (by simp)
 | x :: l, [], _, _, h => absurd ((h x).mp (by simp)) (by simp)
 | x :: l, y :: l', h1, h2, h => by
  rw [Inc, List.pairwise_cons] at h1 h2
  have hx := (h x).mp (by simp)
  have hy := (h y).mpr (by simp)
  have e : x = y := by
   rcases List.mem_cons.mp hx with e | hx
   ·exact e
   ·rcases List.mem_cons.mp hy with e | hy
    ·exact e.symm
    ·have := h1.1 y hy; have := h2.1 x hx; omega
  subst e
  congr 1
  refine inc_ext h1.2 h2.2 fun z => ⟨fun hz => ?_, fun hz => ?_⟩
  ·rcases List.mem_cons.mp ((h z).mp (List.mem_cons_of_mem _ hz)) with e | hz2
   ·have := h1.1 z hz; omega
   ·exact hz2
  ·rcases List.mem_cons.mp ((h z).mpr (List.mem_cons_of_mem _ hz)) with e | hz2
   ·have := h2.1 z hz; omega
   ·exact hz2
theorem Inc.nodup {l : List Int} (h : Inc l) : l.Nodup := List.Pairwise.imp (fun h => by omega) h
def qB (l : List Int) (x : Int) : List Int := l.filter (fun y => decide (y < x)) ++ x :: l.filter (fun y => decide (x < y))
theorem mem_addZ {l : List Int} {x y : Int} : y ∈ qB l x ↔ y ∈ l ∨ y = x := by
 unfold qB
 simp only [List.mem_append, List.mem_cons, List.mem_filter, decide_eq_true_eq]
 constructor
 ·rintro (⟨h, _⟩ | h | ⟨h, _⟩)
  ·exact .inl h
  ·exact .inr h
  ·exact .inl h
 ·rintro (h | h)
  ·rcases Int.lt_trichotomy y x with h2 | h2 | h2
   ·exact .inl ⟨h, h2⟩
   ·exact .inr (.inl h2)
   ·exact .inr (.inr ⟨h, h2⟩)
  ·exact .inr (.inl h)
theorem addZ_inc {l : List Int} {x : Int} (h : Inc l) : Inc (qB l x) := by
 unfold qB Inc
 rw [List.pairwise_append, List.pairwise_cons]
 refine ⟨h.filter _, ⟨fun y hy => ?_, h.filter _⟩, fun a ha b hb => ?_⟩
 ·simpa using (List.mem_filter.mp hy).2
 ·have h1 : a < x := by simpa using (List.mem_filter.mp ha).2
  rcases List.mem_cons.mp hb with e | hb
  ·omega
  ·have : x < b := by simpa using (List.mem_filter.mp hb).2
   omega
theorem addZ_old {l : List Int} {x : Int} (h : Inc l) (hx : x ∈ l) : qB l x = l :=
 inc_ext (addZ_inc h) h fun y => by
  rw [mem_addZ]
  constructor
  ·rintro (h | rfl)
   ·exact h
   ·exact hx
  ·exact .inl
theorem addZ_new {l : List Int} {x : Int} (hx : x ∉ l) : (qB l x).length = l.length + 1 := by
 unfold qB
 have h3 := List.length_eq_countP_add_countP (fun y => decide (y < x)) (l := l)
 have h4 : l.countP (fun a => decide (¬ decide (a < x) = true)) = (l.filter fun y => decide (x < y)).length := by
  rw [List.countP_eq_length_filter]
  congr 1
  refine List.filter_congr fun y hy => ?_
  have : y ≠ x := fun e => hx (e ▸ hy)
  simp only [decide_eq_true_eq, Int.not_lt]
  exact decide_eq_decide.mpr ⟨fun _ => by omega, fun _ => by omega⟩
 rw [List.countP_eq_length_filter] at h3
 simp only [List.length_append, List.length_cons]
 omega
theorem addZ_len {l : List Int} {x : Int} (h : Inc l) : l.length ≤ (qB l x).length ∧ (qB l x).length ≤ l.length + 1 ∧ ((qB l x).length = l.length → x ∈ l) := by
 by_cases hx : x ∈ l
 ·rw [addZ_old h hx]; exact ⟨Nat.le_refl _, by omega, fun _ => hx⟩
 ·rw [addZ_new hx]; exact ⟨by omega, Nat.le_refl _, fun h => by omega⟩
section
variable (js : List (Int × Int)) (bad : Int) (may : List Sp)
def Clo (l : List Sp) (out : List Int) : Prop := ∀ m ∈ l, m.w ∈ out → yj m.w bad 0 js = true → m.p ∈ out ∧ zJ m.w m.p ∈ out
variable {js bad may}
theorem Rch.range (hm : yZ may) {w x : Int} (h0 : 0 < w) (h : Rch js bad may w x) : 0 < x ∧ x ≤ w := by
 induction h with
 | self => omega
 | part h hn hm2 hw ih =>
  obtain ⟨a, b⟩ := hm _ hm2
  have := yR a b
  omega
 | @rest S m h hn hm2 hw ih =>
  obtain ⟨a, b⟩ := hm _ hm2
  have := yR a b
  subst hw
  omega
theorem Clo.all {out : List Int} {w : Int} (h : Clo js bad may out) (hw : w ∈ out) {x : Int} (hx : Rch js bad may w x) : x ∈ out := by
 induction hx with
 | self => exact hw
 | part _ hn hm hw ih => subst hw; exact (h _ hm ih hn).1
 | rest _ hn hm hw ih => subst hw; exact (h _ hm ih hn).2
def stepN (v : Int → Int) (S : Int) (n : Int) (m : Sp) : Int :=
 if m.w ≠ S then n else if v m.p < 65536 ∧ v (zJ S m.p) < 65536 then min n (1 + v m.p + v (zJ S m.p)) else n
theorem stepN_eq {v : Int → Int} {S : Int} {acc : Int × Sp} {m : Sp} : (xv v S acc m).1 = stepN v S acc.1 m := by
 unfold xv stepN
 by_cases h : m.w = S
 ·have hne : ¬ m.w ≠ S := fun k => k h
  rw [if_neg hne, if_neg hne]
  by_cases h1 : v m.p < 65536 ∧ v (zJ S m.p) < 65536
  ·rw [if_pos h1]
   by_cases h2 : 1 + v m.p + v (zJ S m.p) < acc.1
   ·rw [if_pos ⟨h1.1, h1.2, h2⟩]; simp only; omega
   ·rw [if_neg (fun h => h2 h.2.2)]; omega
  ·rw [if_neg h1, if_neg (fun h => h1 ⟨h.1, h.2.1⟩)]
 ·rw [if_pos h, if_pos h]
theorem foldN_eq {v : Int → Int} {S : Int} : ∀ {l : List Sp} {acc : Int × Sp}, (l.foldl (xv v S) acc).1 = l.foldl (stepN v S) acc.1
 | [], _ => rfl
 | m :: l, acc => by rw [List.foldl_cons, List.foldl_cons, foldN_eq, stepN_eq]
theorem foldN_pos {v : Int → Int} {S : Int} (hv : ∀ x, 0 ≤ v x) : ∀ {l : List Sp} {n : Int}, 0 < n → 0 < l.foldl (stepN v S) n
 | [], _, h => h
 | m :: l, n, h => by
  rw [List.foldl_cons]
  refine foldN_pos hv ?_
  have := hv m.p
  have := hv (zJ S m.p)
  unfold stepN
  split
  ·exact h
  ·split <;> omega
theorem bb_num (hm : yZ may) {S : Int} (h0 : 0 < S) : (bb js bad may S).1 = if yj S bad 0 js = true then may.foldl (stepN (fun x => (bb js bad may x).1) S) 65536 else 0 := by
 rw [bb_eq hm h0]
 split
 ·exact foldN_eq
 ·rfl
theorem bb_pos (hm : yZ may) {S : Int} (h0 : 0 < S) (hn : yj S bad 0 js = true) : 0 < (bb js bad may S).1 := by
 rw [bb_num hm h0, if_pos hn]
 exact foldN_pos (fun x => (yY x).1) (by omega)
def atP : List Int → List Int → Int → Int
 | s :: S, n :: N, x => if s = x then n else atP S N x
 | _, _, _ => -1
theorem atP_map {g : Int → Int} {x : Int} : ∀ {l : List Int}, x ∈ l → atP l (l.map g) x = g x
 | [], h => by simp at h
 | y :: l, h => by
  rw [List.map_cons, atP]
  by_cases e : y = x
  ·rw [if_pos e, e]
  ·rw [if_neg e]
   rcases List.mem_cons.mp h with e2 | h
   ·exact absurd e2.symm e
   ·exact atP_map h
theorem fold_first {v : Int → Int} {S : Int} (hv : ∀ x, 0 ≤ v x) : ∀ (l : List Sp) (acc : Int × Sp), acc.1 ≤ 65536 →
  (l.foldl (xv v S) acc).1 = acc.1 ∧ (l.foldl (xv v S) acc).2 = acc.2 ∨
  (l.foldl (xv v S) acc).1 < acc.1 ∧ ∃ l1 l2, l = l1 ++ (l.foldl (xv v S) acc).2 :: l2 ∧ (l.foldl (xv v S) acc).2.w = S ∧ 1 + v (l.foldl (xv v S) acc).2.p + v (zJ S (l.foldl (xv v S) acc).2.p) = (l.foldl (xv v S) acc).1 ∧ ∀ m ∈ l1, m.w = S → 1 + v m.p + v (zJ S m.p) ≠ (l.foldl (xv v S) acc).1
 | [], acc, _ => .inl ⟨rfl, rfl⟩
 | m :: l, acc, ha => by
  rw [List.foldl_cons]
  have h1 := hv m.p
  have h2 := hv (zJ S m.p)
  have key : xv v S acc m = acc ∧ (m.w = S → acc.1 ≤ 1 + v m.p + v (zJ S m.p)) ∨ xv v S acc m = (1 + v m.p + v (zJ S m.p), m) ∧ m.w = S ∧ 1 + v m.p + v (zJ S m.p) < acc.1 := by
   unfold xv
   by_cases hw : m.w = S
   ·rw [if_neg (by simpa using hw)]
    by_cases hc : v m.p < 65536 ∧ v (zJ S m.p) < 65536 ∧ 1 + v m.p + v (zJ S m.p) < acc.1
    ·rw [if_pos hc]; exact .inr ⟨rfl, hw, hc.2.2⟩
    ·rw [if_neg hc]; exact .inl ⟨rfl, fun _ => by omega⟩
   ·rw [if_pos hw]; exact .inl ⟨rfl, fun h => absurd h hw⟩
  rcases key with ⟨e, hk⟩ | ⟨e, hk, hlt⟩
  ·rw [e]
   rcases fold_first hv l acc ha with h | ⟨h, l1, l2, h3, h4, h5, h6⟩
   ·exact .inl h
   ·refine .inr ⟨h, m :: l1, l2, by rw [List.cons_append, ← h3], h4, h5, fun x hx hxw => ?_⟩
    rcases List.mem_cons.mp hx with e2 | hx
    ·subst e2; have := hk hxw; omega
    ·exact h6 x hx hxw
  ·rw [e]
   rcases fold_first hv l (1 + v m.p + v (zJ S m.p), m) (by simp only; omega) with ⟨h, h3⟩ | ⟨h, l1, l2, h3, h4, h5, h6⟩
   ·refine .inr ⟨by rw [h]; exact hlt, [], l, by rw [h3]; rfl, by rw [h3]; exact hk, by rw [h, h3], fun x hx => by simp at hx⟩
   ·refine .inr ⟨by simp only at h; omega, m :: l1, l2, by rw [List.cons_append, ← h3], h4, h5, fun x hx hxw => ?_⟩
    rcases List.mem_cons.mp hx with e2 | hx
    ·subst e2; simp only at h; omega
    ·exact h6 x hx hxw
theorem bb_first (hm : yZ may) {S : Int} (h0 : 0 < S) (hp : 0 < (bb js bad may S).1) (hl : (bb js bad may S).1 < 65536) :
  ∃ l1 l2, may = l1 ++ (bb js bad may S).2 :: l2 ∧ (bb js bad may S).2.w = S ∧ 1 + (bb js bad may (bb js bad may S).2.p).1 + (bb js bad may (zJ S (bb js bad may S).2.p)).1 = (bb js bad may S).1 ∧ ∀ m ∈ l1, m.w = S → 1 + (bb js bad may m.p).1 + (bb js bad may (zJ S m.p)).1 ≠ (bb js bad may S).1 := by
 have e := bb_eq (js := js) (bad := bad) hm h0
 by_cases hn : yj S bad 0 js = true
 ·rw [if_pos hn] at e
  rcases fold_first (v := fun x => (bb js bad may x).1) (S := S) (fun x => (yY x).1) may (65536, default) (by simp) with ⟨h, _⟩ | ⟨_, h⟩
  ·rw [← e] at h; simp only at h; omega
  ·rw [← e] at h; exact h
 ·rw [if_neg hn] at e
  rw [e] at hp
  simp at hp
theorem at_split {l l1 l2 : List Sp} {x : Sp} (h : l = l1 ++ x :: l2) : l[l1.length]? = some x := by
 subst h
 simp
theorem bb_found (hm : yZ may) {S : Int} (h0 : 0 < S) (hp : 0 < (bb js bad may S).1) (hl : (bb js bad may S).1 < 65536) {i : Nat} (hi : i < may.length)
  (hw : (may.getD i default).w = S) (hs : 1 + (bb js bad may (may.getD i default).p).1 + (bb js bad may (zJ S (may.getD i default).p)).1 = (bb js bad may S).1)
  (hb : ∀ m ∈ may.take i, m.w = S → 1 + (bb js bad may m.p).1 + (bb js bad may (zJ S m.p)).1 ≠ (bb js bad may S).1) : may.getD i default = (bb js bad may S).2 := by
 obtain ⟨l1, l2, h1, h2, h3, h4⟩ := bb_first (js := js) (bad := bad) hm h0 hp hl
 rcases Nat.lt_trichotomy i l1.length with h | h | h
 ·exfalso
  refine h4 (may.getD i default) ?_ hw hs
  rw [List.getD_eq_getElem?_getD, h1, List.getElem?_append_left h, List.getElem?_eq_getElem h]
  simp
 ·conv => lhs; rw [List.getD_eq_getElem?_getD, h1]
  rw [h, List.getElem?_append_right (Nat.le_refl _)]
  simp
 ·exfalso
  refine hb (bb js bad may S).2 ?_ h2 h3
  have hx := at_split h1
  exact List.mem_of_getElem? (i := l1.length) (by rw [List.getElem?_take, if_pos h]; exact hx)
theorem bb_finds (hm : yZ may) {S : Int} (h0 : 0 < S) (hp : 0 < (bb js bad may S).1) (hl : (bb js bad may S).1 < 65536) :
  ¬ ∀ m ∈ may, m.w = S → 1 + (bb js bad may m.p).1 + (bb js bad may (zJ S m.p)).1 ≠ (bb js bad may S).1 := by
 obtain ⟨l1, l2, h1, h2, h3, h4⟩ := bb_first (js := js) (bad := bad) hm h0 hp hl
 intro h
 exact h _ (List.mem_of_getElem? (at_split h1)) h2 h3
end
section
variable (js : List (Int × Int)) (bad : Int) (may : List Sp) (w : Int)
structure LOut where
 x : List Sp
 n : Int
 ks : List Int
 ns : List Int
 e : Int
def LIs (o : LOut) : Prop :=
 (xm w js bad may ≠ 0 ∧ o = ⟨[], 0, [], [], xm w js bad may⟩) ∨
 (xm w js bad may = 0 ∧ (bb js bad may w).1 = 65536 ∧ o = ⟨[], 0, [], [], 6⟩) ∨
 (xm w js bad may = 0 ∧ (bb js bad may w).1 < 65536 ∧ Inc o.ks ∧ (∀ k, k ∈ o.ks ↔ Rch js bad may w k) ∧ o.ns = o.ks.map (fun q => (bb js bad may q).1) ∧ o.x = tk js bad may (w.toNat + 1) w ∧ o.n = (bb js bad may w).1 ∧ o.e = 0)
variable {js bad may w}
theorem err_zero (h : xm w js bad may = 0) : may.length ≤ 4096 ∧ js.length ≤ 16 ∧ 0 < w ∧ w < 65536 ∧ 0 ≤ bad ∧ bad < 2 ^ js.length ∧ (∀ x ∈ may, y1 x.w x.p = true) ∧ xp js = true := by
 unfold xm at h
 split at h
 ·omega
 ·split at h
  ·omega
  ·split at h
   ·omega
   ·next h3 =>
    split at h
    ·next h4 =>
     refine ⟨by omega, by omega, by omega, by omega, by omega, by omega, fun x hx => ?_, h4⟩
     cases hs : y1 x.w x.p with
     | true => rfl
     | false => exact absurd (List.any_eq_true.mpr ⟨x, hx, by rw [hs]; rfl⟩) h3
    ·omega
theorem joinsB_all : ∀ {js : List (Int × Int)}, xp js = true → ∀ j ∈ js, kf j ∧ j.1 ≠ j.2
 | [], _ => fun j hj => by simp at hj
 | j :: r, h => by
  rw [xp, Bool.and_eq_true] at h
  intro x hx
  rcases List.mem_cons.mp hx with e | hx
  ·subst e
   have h1 := h.1
   simp only [Bool.not_eq_true', Bool.or_eq_false_iff, decide_eq_false_iff_not] at h1
   unfold kf
   omega
  ·exact joinsB_all h.2 x hx
end
end Go.Proofs.YtdejleegamcioaaGreat
