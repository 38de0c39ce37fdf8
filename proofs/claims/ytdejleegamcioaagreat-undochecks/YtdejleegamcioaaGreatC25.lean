/- slices.Compact, as far as it is asked: whether it shortens. -/
/- undo.Levels.shows: what levels show. -/
import Derived.Test.YtdejleegamcioaaGreatC24
namespace Go.Proofs.YtdejleegamcioaaGreat
open Go Go.M
theorem fb97 : yx Tryz.f97 (Tryz.f97.body.getD .skip) 1 = true := by kernel_rfl
end Go.Proofs.YtdejleegamcioaaGreat
namespace Go.M
section
variable {P : Program} {I : yh} {F : FF} {s : St} {Q : FF → St → Prop} {d : Option Tmp} {ty : TypeId} {pos : String} {af : Array Edge} {g : Option (Nat × Bool)} {W : List Nat} {s0 : St} {L : Hp'} {n : Nat}
theorem op_clear {ag : Array Operand} {ts : Array TypeId} {t e e' : TypeId} {tr : List TypeId} {x : Operand} {sz by_ b off m cap : Nat} {z c c' : List Value} (H : HL W s0 s ((b, .cells c e') :: L) n) (hs : xn P t = some (e, sz, by_, z))
  (ht : ts.toList = t :: tr) (ha : ag.toList = [x]) (hx : zS F x = .slice (some ⟨b, off, none⟩) (m + 1) cap) (hp : (repL z (m + 1)).all plainCell = true) (hc : xR off (repL z (m + 1)) c = some c') (hr : s0.next + n ≤ zp)
  (k : ∀ s', HL W s0 s' ((b, .cells c' e') :: L) n → Q (upd F d (.tuple ⟨[]⟩)) s') : OpW P I ⟨d, .call ⟨.builtin .clear, ag, ts⟩, ty, pos, af, g⟩ F s Q := by
 obtain ⟨hu, inf, z', hi, rfl, rfl, hz, hz1, hz2⟩ := xc hs
 refine ym (v := .tuple ⟨[]⟩) (s' := s.put b (some (.cells c' e'))) ?_ (k _ (H.put0 _ hr))
 have hmay := (H.own (b, .cells c e') (by simp)).2.2.1
 simp only at hmay
 simp only [zT, xh, clearM, ht, ha, xN, hx, hu, hi, hz, xJ, H.own0, hp, hmay, Bool.and_self, hc]
 rfl
end
end Go.M
namespace Go.Proofs.YtdejleegamcioaaGreat
open Go Go.M
theorem lover_some {α : Type} : ∀ {vs l : List α}, vs.length ≤ l.length → ∃ r, lover vs l = some r ∧ r.length = l.length
 | [], l, _ => ⟨l, rfl, rfl⟩
 | v :: vs, [], h => by simp at h
 | v :: vs, x :: l, h => by
  obtain ⟨r, h1, h2⟩ := lover_some (vs := vs) (l := l) (by simpa using h)
  exact ⟨v :: r, by rw [lover, h1], by simp [h2]⟩
theorem lput_some {α : Type} : ∀ {n : Nat} {vs l : List α}, n + vs.length ≤ l.length → ∃ r, xR n vs l = some r ∧ r.length = l.length
 | 0, vs, l, h => by
  obtain ⟨r, h1, h2⟩ := lover_some (vs := vs) (l := l) (by omega)
  exact ⟨r, by cases l <;> simpa [xR] using h1, h2⟩
 | n + 1, vs, [], h => by simp at h
 | n + 1, vs, x :: l, h => by
  obtain ⟨r, h1, h2⟩ := lput_some (n := n) (vs := vs) (l := l) (by simp at h; omega)
  exact ⟨x :: r, by rw [xR, h1], by simp [h2]⟩
theorem zeros_plain : ∀ n, (repL [.int .i64 0] n).all Go.M.plainCell = true
 | 0 => rfl
 | n + 1 => by simp only [repL, List.all_append, zeros_plain n]; rfl
def Apart (l : List Int) : Prop := ∀ j, j + 1 < l.length → l.getD j 0 ≠ l.getD (j + 1) 0
set_option maxHeartbeats 4000000 in
set_option maxRecDepth 10000 in
theorem compact_ok {I : yh} (hI : Plain I) {s : St} (hf : Fine s) {b cap : Nat} {l : List Int} (hg : s.get b = some (.cells (yq l) 23)) (hb : b < s.next) (hmay : s.may b = true) (hcap : l.length ≤ cap / 2) (hlen : l.length ≤ 1000000) (hroom : s.next ≤ zp) :
  ∃ v' s', yJ Tryz.prog I 97 #[.slice (some ⟨b, 0, none⟩) l.length cap] s v' s' ∧ (∃ (a : Option Addr) (n c : Nat) (c2 : List Value), v' = .slice a n c ∧ HL [b] s s' [(b, .cells c2 23)] 0 ∧ (n = l.length ↔ Apart l)) := by
 have H : HL [b] s s [(b, .cells (yq l) 23)] 0 := ⟨rfl, rfl, hf.wfb, hf.wfp, Nat.le_refl _, Nat.le_refl _, fun p hp => by rw [List.mem_singleton] at hp; subst hp; exact ⟨hg, hb, hmay, .inr (by simp)⟩, by simp, fun _ _ _ => rfl⟩
 refine yf 1 (hI 97 (by decide) (by decide)) Tryz.func97 rfl fb97 rfl ?_
 refine zf (za rfl (zh (zb (zy (zf (za rfl (zk rfl (za rfl (zZ qd rfl rfl rfl (za rfl (ye rfl rfl (fun h => ?_) (fun h => ?_))))))))))))
 ·refine zb (zq rfl (zf (za rfl (zk rfl (za rfl (zO rfl (zb (zr (zo (zm (zN ?_)))))))))))
  exact ⟨_, _, _, _, rfl, H, ⟨fun _ j hj => by omega, fun _ => rfl⟩⟩
 refine zb (zw rfl (zD (zj (zy (zf (za rfl (zh (zb (zH (yu (fun k F s1 => ∃ (G : FF) (i : Nat), F = lay G [(0, .slice (some ⟨b, 0, none⟩) l.length cap), (3, .int .i64 (i : Int))] ∧ HL [b] s s1 [(b, .cells (yq l) 23)] 0 ∧ 1 ≤ i ∧ i ≤ l.length ∧ (∀ j, j + 1 < i → l.getD j 0 ≠ l.getD (j + 1) 0) ∧ k = l.length - i) ?_ (l.length - 1) _ _ ?_))))))))))
 rotate_left
 ·exact ⟨_, 1, yb ⟨rfl, rfl, trivial⟩, H, by omega, by omega, (by intro j hj; omega), by omega⟩
 rintro k F s1 ⟨G, i, rfl, H, hi1, hi, hap, rfl⟩
 refine zy (zf (za rfl (ze rfl (za rfl (zk rfl (za rfl (zZ qd rfl rfl rfl (za rfl (ye rfl rfl (fun h => ?_) (fun h => ?_))))))))))
 ·refine zb (zq rfl (zD (zj (zy (zH (yn [⟨0, 0, .light, [8]⟩, ⟨1, 0, .light, [8]⟩, ⟨2, 3, .light, [8]⟩, ⟨3, 7, .light, [8]⟩, ⟨4, 0, .light, [3]⟩, ⟨5, 0, .light, [3]⟩, ⟨6, 32, .light, [3]⟩, ⟨7, 112, .light, [3]⟩, ⟨8, 240, .light, [3]⟩, ⟨9, 511, .light, []⟩] (by kernel_rfl) (by kernel_rfl) ?_))))))
  have hlb : b < zp := Nat.lt_of_lt_of_le hb hroom
  refine zd rfl rfl (zk rfl ⟨rfl, (zd rfl rfl (ze rfl ⟨rfl, (zd rfl rfl (zA xU rfl rfl (by omega) (by omega) ⟨rfl, (zG rfl rfl ys rfl H.own0 hlb (lget_ints' (k := i) (by omega) (by omega)) (zd rfl rfl (zk rfl ⟨rfl, (zd rfl rfl (ze rfl ⟨rfl, (zd rfl rfl (xo rfl rfl (by unfold zV; omega) ⟨rfl, (zd rfl rfl (zA xU rfl rfl (by omega) (by omega) ⟨rfl, (zG rfl rfl ys rfl H.own0 hlb (lget_ints' (k := i - 1) (by omega) (by omega)) (zd rfl rfl (yD rfl rfl (fun h => ⟨rfl, ?_⟩) (fun h => ⟨rfl, ?_⟩))))⟩))⟩))⟩))⟩)))⟩))⟩))⟩)
  ·refine zR (zq rfl ?_)
   have hdup : l.getD (i - 1) 0 = l.getD i 0 := h.symm
   refine zf (za rfl (zk rfl (za rfl (ze rfl (za rfl (op_sliceLo (m := i) qs rfl rfl rfl H.own0 (by omega) hcap (fun ol cap2 hol hlc => ?_)))))))
   obtain rfl := hol (by omega)
   refine za rfl (zO rfl (zb (zy (zf (za rfl (zh (zb (zH (yu (fun k F s1 => ∃ (G : FF) (w q : Nat) (cs : List Int), F = lay G [(0, .slice (some ⟨b, 0, none⟩) l.length cap), (3, .int .i64 (w : Int)), (4, .slice (some ⟨b, 0 + i * 1, none⟩) (l.length - i) cap2), (5, .int .i64 (q : Int))] ∧ HL [b] s s1 [(b, .cells (yq cs) 23)] 0 ∧ cs.length = l.length ∧ 1 ≤ q ∧ q ≤ l.length - i ∧ w ≤ i + (q - 1) ∧ k = l.length - i - q) ?_ (l.length - i - 1) _ _ ?_)))))))))
   rotate_left
   ·exact ⟨_, i, 1, l, yb ⟨rfl, rfl, rfl, rfl, trivial⟩, H, rfl, by omega, by omega, by omega, by omega⟩
   rintro k F s1 ⟨G, w, q, cs, rfl, H, hcs, hq1, hq, hw, rfl⟩
   refine zy (zf (za rfl (ze rfl (za rfl (zk rfl (za rfl (zZ qd rfl rfl rfl (za rfl (ye rfl rfl (fun h => ?_) (fun h => ?_))))))))))
   ·refine zb (zq rfl (zD (zj (zy (zH (yn [⟨0, 0, .light, [8]⟩, ⟨1, 0, .light, [8]⟩, ⟨2, 3, .light, [8]⟩, ⟨3, 7, .light, [8]⟩, ⟨4, 0, .light, [3]⟩, ⟨5, 0, .light, [3]⟩, ⟨6, 32, .light, [3]⟩, ⟨7, 112, .light, [3]⟩, ⟨8, 240, .light, [3]⟩, ⟨9, 511, .light, []⟩] (by kernel_rfl) (by kernel_rfl) ?_))))))
    have hlb : b < zp := Nat.lt_of_lt_of_le hb hroom
    refine zd rfl rfl (zk rfl ⟨rfl, (zd rfl rfl (ze rfl ⟨rfl, (zd rfl rfl (zA xU rfl rfl (by omega) (by omega) ⟨rfl, (zG rfl rfl ys rfl H.own0 hlb (lget_ints' (k := i + q) (by omega) (by omega)) (zd rfl rfl (zk rfl ⟨rfl, (zd rfl rfl (ze rfl ⟨rfl, (zd rfl rfl (xo rfl rfl (by unfold zV; omega) ⟨rfl, (zd rfl rfl (zA xU rfl rfl (by omega) (by omega) ⟨rfl, (zG rfl rfl ys rfl H.own0 hlb (lget_ints' (k := i + q - 1) (by omega) (by omega)) (zd rfl rfl (yG rfl rfl (fun h => ⟨rfl, ?_⟩) (fun h => ⟨rfl, ?_⟩))))⟩))⟩))⟩))⟩)))⟩))⟩))⟩)
    ·refine zR (zq rfl (zf (za rfl (zk rfl (za rfl (ze rfl (za rfl (zk rfl (za rfl (ze rfl (za rfl (zA xU rfl rfl (by omega) (by omega) (za rfl (zn ys rfl H.own0 (lget_ints' (k := i + q) (by omega) (by omega)) (za rfl (zA xU rfl rfl (by omega) (by omega) (za rfl (yg (c' := yq (cs.set w (cs.getD (i + q) 0))) H sz23 rfl rfl rfl rfl (lput_ints' (by omega) (by omega)) (by omega) (fun s51 H => ?_)))))))))))))))))))
     refine zb (zC (za rfl (ze rfl (za rfl (zW rfl rfl (by unfold zV; omega) (za rfl (zl rfl (zb (zK (zj (zC (za rfl (ze rfl (za rfl (zW rfl rfl (by unfold zV; omega) (za rfl (zl rfl ?_)))))))))))))))))
     refine zb (zI ?_)
     exact ⟨l.length - i - (q + 1), by omega, _, w + 1, q + 1, cs.set w (cs.getD (i + q) 0), yb ⟨rfl, rfl, rfl, rfl, trivial⟩, H, by rw [List.length_set]; exact hcs, by omega, by omega, by omega, rfl⟩
    refine zR (zw rfl (zD (zK (zj (zC (za rfl (ze rfl (za rfl (zW rfl rfl (by unfold zV; omega) (za rfl (zl rfl (zb (zI ?_)))))))))))))
    exact ⟨l.length - i - (q + 1), by omega, _, w, q + 1, cs, yb ⟨rfl, rfl, rfl, rfl, trivial⟩, H, hcs, by omega, by omega, by omega, rfl⟩
   refine zb (zw rfl (yc (zQ (ya (zY (zj (zf (za rfl (zk rfl (za rfl (ze rfl (za rfl (op_sliceLo (m := w) qs rfl rfl rfl H.own0 (by omega) hcap (fun ol2 cap3 hol2 hlc2 => ?_))))))))))))))
   obtain rfl := hol2 (by omega)
   obtain ⟨m, hm⟩ : ∃ m, l.length - w = m + 1 := ⟨l.length - w - 1, by omega⟩
   obtain ⟨c2, hc2, _⟩ := lput_some (n := 0 + w * 1) (vs := repL [.int .i64 0] (m + 1)) (l := yq cs) (by rw [repL_length]; simp [yq]; omega)
   rw [hm]
   refine za rfl (op_clear H qs rfl rfl rfl (zeros_plain _) hc2 (by omega) (fun s56 H => ?_))
   refine zb (zf (za rfl (zk rfl (za rfl (ze rfl (za rfl (op_sliceHi (m := w) qs rfl rfl rfl H.own0 (by omega) (za rfl (zO rfl (zb (zr (zu (zo (zL (zu ?_)))))))))))))))
   refine zo (zm (zN (⟨_, _, _, _, rfl, H, ⟨fun e => by omega, fun ha => ?_⟩⟩)))
   exfalso
   have := ha (i - 1) (by omega)
   rw [show i - 1 + 1 = i by omega] at this
   exact this hdup
  refine zR (zw rfl (zD (zK (zj (zC (za rfl (ze rfl (za rfl (zW rfl rfl (by unfold zV; omega) (za rfl (zl rfl (zb (zI (⟨l.length - (i + 1), by omega, _, i + 1, yb ⟨rfl, rfl, trivial⟩, H, by omega, by omega, ?_, rfl⟩))))))))))))))
  intro j hj
  by_cases hj2 : j + 1 < i
  ·exact hap j hj2
  ·obtain rfl : j = i - 1 := by omega
   rw [show i - 1 + 1 = i by omega]
   exact fun e => h e.symm
 refine zb (zw rfl (yc (zQ (ya (zY (zj (zf (za rfl (zk rfl (za rfl (zO rfl (zb (zr ?_)))))))))))))
 refine zm (zN ?_)
 exact ⟨_, _, _, _, rfl, H, ⟨fun _ j hj => hap j (by omega), fun _ => rfl⟩⟩
end Go.Proofs.YtdejleegamcioaaGreat
namespace Go.Proofs.YtdejleegamcioaaGreat
open Go Go.M
theorem fb99 : yx Tryz.f99 (Tryz.f99.body.getD .skip) 2 = true := by kernel_rfl
theorem fc100 : yp Tryz.prog 100 = true := by kernel_rfl
theorem atP_idx : ∀ {ks ns : List Int}, Inc ks → ∀ {i : Nat}, i < ks.length → i < ns.length → atP ks ns (ks.getD i 0) = ns.getD i 0
 | [], _, _, _, h, _ => by simp at h
 | _ :: _, [], _, _, _, h => by simp at h
 | k :: ks, n :: ns, hi, 0, _, _ => by simp [atP]
 | k :: ks, n :: ns, hi, i + 1, h1, h2 => by
  rw [Inc, List.pairwise_cons] at hi
  have hm : ks.getD i 0 ∈ ks := zP (by simpa using h1)
  have := hi.1 _ hm
  rw [List.getD_cons_succ, List.getD_cons_succ, atP, if_neg (by omega)]
  exact atP_idx hi.2 (by simpa using h1) (by simpa using h2)
theorem idx_of_mem {l : List Int} {x : Int} (h : x ∈ l) : ∃ i, i < l.length ∧ l.getD i 0 = x := by
 obtain ⟨j, hj, he⟩ := List.mem_iff_getElem.mp h
 exact ⟨j, hj, by rw [← he]; simp [List.getD_eq_getElem?_getD, List.getElem?_eq_getElem hj]⟩
theorem atP_mem {ks ns : List Int} (hi : Inc ks) (hl : ks.length = ns.length) {x : Int} (hx : x ∈ ks) : atP ks ns x ∈ ns := by
 obtain ⟨i, h1, rfl⟩ := idx_of_mem hx
 rw [atP_idx hi h1 (by omega)]
 exact zP (by omega)
theorem inc_of {l : List Int} (h1 : Srt l) (h2 : Apart l) : Inc l := by
 rw [Inc, List.pairwise_iff_getElem]
 intro i j hi hj hij
 have key : ∀ n, i + n + 1 < l.length → l.getD i 0 < l.getD (i + n + 1) 0 := by
  intro n
  induction n with
  | zero => intro h; rw [Nat.add_zero] at h ⊢; have := h1 i h; have := h2 i h; omega
  | succ n ih => intro h; have := ih (by omega); have := h1 (i + n + 1) (by omega); have := h2 (i + n + 1) (by omega); rw [show i + (n + 1) + 1 = i + n + 1 + 1 by omega]; omega
 have := key (j - i - 1) (by omega)
 rw [show i + (j - i - 1) + 1 = j by omega] at this
 simpa [List.getD_eq_getElem?_getD, List.getElem?_eq_getElem hi, List.getElem?_eq_getElem hj] using this
theorem xA {l : List Int} (h : Inc l) : Srt l ∧ Apart l := by
 rw [Inc, List.pairwise_iff_getElem] at h
 refine ⟨fun j hj => ?_, fun j hj => ?_⟩
 ·have := h j (j + 1) (by omega) hj (by omega)
  have e1 : l.getD j 0 = l[j] := by simp [List.getD_eq_getElem?_getD, List.getElem?_eq_getElem (show j < l.length by omega)]
  have e2 : l.getD (j + 1) 0 = l[j + 1] := by simp [List.getD_eq_getElem?_getD, List.getElem?_eq_getElem hj]
  omega
 ·have := h j (j + 1) (by omega) hj (by omega)
  have e1 : l.getD j 0 = l[j] := by simp [List.getD_eq_getElem?_getD, List.getElem?_eq_getElem (show j < l.length by omega)]
  have e2 : l.getD (j + 1) 0 = l[j + 1] := by simp [List.getD_eq_getElem?_getD, List.getElem?_eq_getElem hj]
  omega
structure Lev (js : List (Int × Int)) (bad : Int) (may : List Sp) (ks ns : List Int) : Prop where
 len : ks.length = ns.length
 inc : Inc ks
 set : ∀ k ∈ ks, 1 ≤ k ∧ k ≤ 65535
 num : ∀ n ∈ ns, 0 ≤ n ∧ n ≤ 65536
 none : ∀ i, i < ks.length → yj (ks.getD i 0) bad 0 js = false → ns.getD i 0 = 0
 low : ∀ i, i < ks.length → yj (ks.getD i 0) bad 0 js = true → ∀ m ∈ may, m.w = ks.getD i 0 → m.p ∈ ks ∧ zJ m.w m.p ∈ ks ∧ ns.getD i 0 ≤ 1 + atP ks ns m.p + atP ks ns (zJ m.w m.p)
set_option maxHeartbeats 4000000 in
set_option maxRecDepth 10000 in
theorem at_ok2 {I : yh} (hI : Plain I) {s : St} {a1 a2 : Option Addr} {c1 c2 b5 : Nat} {ks ns : List Int} {x : Int} (hg : s.get b5 = some (.cells [.slice a1 ks.length c1, .slice a2 ns.length c2] 36)) (h1 : Sl s 23 1 (.slice a1 ks.length c1) (ks.map dc)) (h2 : Sl s 3 1 (.slice a2 ns.length c2) (ns.map dc)) (hinc : Inc ks) (hln : ks.length = ns.length) (hlen : ks.length ≤ 1000000) :
  ∃ v' s', yJ Tryz.prog I 99 #[.int .i64 x, ptr b5] s v' s' ∧ (∃ (n : Int) (b : Bool), v' = .tuple ⟨[.int .i64 n, .bool b]⟩ ∧ (b = true → x ∈ ks ∧ n = atP ks ns x) ∧ (b = false → x ∉ ks ∧ n = 0) ∧ s' = s) := by
 refine yf 2 (hI 99 (by decide) (by decide)) Tryz.func99 rfl fb99 rfl ?_
 refine zf (za rfl (zh (za rfl (zh (zb (zf (za rfl (zg of36_0 rfl (za rfl (zn x5 rfl (by exact hg) rfl (za rfl (ze rfl (za rfl (zx rfl fc100 rfl ?_))))))))))))))
 obtain ⟨_, s9, hr, i, bb, rfl, hbt, hbf, hs9⟩ := binSearch_ok (x := x) hI h1 hinc hlen
 rw [hs9] at hr
 refine ⟨_, _, hr, ?_⟩
 clear hr
 cases bb
 ·refine za rfl (yv rfl (za rfl (zF rfl rfl (za rfl (zF rfl rfl (za rfl (zl rfl (za rfl (zt rfl (zb (zy (zf (za rfl (zi rfl (za rfl (yz rfl (zb (zq rfl ?_))))))))))))))))))
  refine zf (za rfl (zh (za rfl (zh (zb (zr (zo (zm (yE rfl rfl ?_)))))))))
  exact ⟨0, false, rfl, (fun h => by cases h), (fun _ => ⟨hbf rfl, rfl⟩), rfl⟩
 refine za rfl (yv rfl (za rfl (zF rfl rfl (za rfl (zF rfl rfl (za rfl (zl rfl (za rfl (zt rfl (zb (zy (zf (za rfl (zi rfl (za rfl (yz rfl (zb (zw rfl ?_))))))))))))))))))
 refine zD (zj (zf (za rfl (zg of36_1 rfl (za rfl (zn yS rfl (by exact hg) rfl (za rfl (ze rfl ?_))))))))
 obtain ⟨e2, oo2, d2, rfl, hg2, hb2, hc2⟩ := h2.atD (i := (i : Int)) (k := i) rfl (by have := (hbt rfl).1; omega)
 have hib := (hbt rfl).1
 refine za rfl (zA xP rfl rfl (by omega) (by omega) (za rfl (zn sh3 rfl hg2 hc2 (za rfl (zl rfl (za rfl (zh (zb (zr (zm (yE rfl rfl (⟨_, true, rfl, (fun _ => ?_), (fun h => by cases h), rfl⟩))))))))))))
 obtain ⟨q1, q2⟩ := hbt rfl
 rw [← q2]
 exact ⟨zP q1, (atP_idx hinc q1 (by omega)).symm⟩
set_option maxHeartbeats 4000000 in
set_option maxRecDepth 10000 in
theorem compact0_ok {I : yh} (hI : Plain I) {s : St} {a : Option Addr} {c : Nat} : ∃ v' s', yJ Tryz.prog I 97 #[.slice a 0 c] s v' s' ∧ (v' = .slice a 0 c ∧ s' = s) := by
 refine yf 1 (hI 97 (by decide) (by decide)) Tryz.func97 rfl fb97 rfl ?_
 refine zf (za rfl (zh (zb (zy (zf (za rfl (zk rfl (za rfl (zZ qd rfl rfl rfl (za rfl (ye rfl rfl (fun h => ?_) (fun h => False.elim (by exact h (by decide))))))))))))))
 refine zb (zq rfl (zf (za rfl (zk rfl (za rfl (zO rfl (zb (zr (zo (zm (zN ?_)))))))))))
 exact ⟨rfl, rfl⟩
end Go.Proofs.YtdejleegamcioaaGreat
