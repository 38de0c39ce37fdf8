/- Digits: the reference of integers, as far as numbers of 64 bits reach. -/
/- The reference of integers: a number of 64 bits as digits. -/
/- The reference of integers: products with one, differences of equal numbers. -/
/- The reference of integers: products with one. -/
import Derived.Test.YtdejleegamcioaaGreatP13
namespace Go.Proofs.YtdejleegamcioaaGreat
open Go Go.M
theorem fb211 : yw Tryz.f211 (Tryz.f211.body.getD .skip) 2 = true := by kernel_rfl
theorem bf56 : buildF Tryz.prog 56 = some ([.bool false, .slice none 0 0], [(0, 1), (1, 1)]) := by kernel_rfl
theorem fb167 : yw Tryz.f167 (Tryz.f167.body.getD .skip) 2 = true := by kernel_rfl
theorem qz : z1 Tryz.prog 56 = some (some 2) := by kernel_rfl
theorem sl22 : xG Tryz.prog 22 = some (3, 1, 8, [.int .i64 0]) := by kernel_rfl
theorem qy : yR Tryz.prog 56 = some 2 := by kernel_rfl
theorem zf56 : xQ Tryz.prog 56 = some [.bool false, .slice none 0 0] := by kernel_rfl
theorem fb169 : yw Tryz.f169 (Tryz.f169.body.getD .skip) 2 = true := by kernel_rfl
def dc (x : Int) : List Value := [.int .i64 x]
abbrev SlD (s : St) (v : Value) (l : List Int) : Prop := Sl s 3 1 v (l.map dc)
theorem Sl.atD {s : St} {e : TypeId} {a : Option Addr} {len cap : Nat} {l : List Int} (h : Sl s e 1 (.slice a len cap) (l.map dc)) {i : Int} {k : Nat} (hi : i = (k : Int)) (hk : k < l.length) : ∃ b off c, a = some ⟨b, off, none⟩ ∧ s.get b = some (.cells c e) ∧ b < s.next ∧ yo c (off + i.toNat * 1) = some (.int .i64 (l.getD k 0)) := by
 obtain ⟨b, off, c, h1, h2, h3, h4⟩ := h.at hi (k := k) (by simpa using hk)
 refine ⟨b, off, c, h1, h2, h3, ?_⟩
 rw [getD_map (y := (0 : Int)) hk, xX, qi] at h4
 split at h4
 ·next hle =>
  rw [Option.some.injEq] at h4
  rw [List.length_drop] at hle
  have : ((c.drop (off + i.toNat * 1)).take 1)[0]? = (dc (l.getD k 0))[0]? := by rw [h4]
  rw [List.getElem?_take, if_pos (by omega), List.getElem?_drop] at this
  rw [yx]
  simpa [dc] using this
 ·cases h4
theorem Sl.take {s : St} {e : TypeId} {sz : Nat} {a : Option Addr} {len cap : Nat} {es : List (List Value)} (h : Sl s e sz (.slice a len cap) es) {m : Nat} (hm : m ≤ es.length) : Sl s e sz (.slice a m cap) (es.take m) := by
 cases h with
 | nil c hv hl =>
  subst hl
  cases hv
  simp only [List.length_nil, Nat.le_zero] at hm
  subst hm
  exact .nil _ rfl (by simp)
 | block b off cap c hv hg hb hcap hc =>
  cases hv
  have hlen : (es.take m).length = m := by simp; omega
  refine .block b off cap c (by rw [hlen]) hg hb (by omega) fun k hk => ?_
  rw [hlen] at hk
  rw [hc k (by omega)]
  simp [List.getD_eq_getElem?_getD, List.getElem?_take, hk]
theorem Sl.prot {s : St} {e : TypeId} {sz : Nat} {v : Value} {es : List (List Value)} (h : Sl s e sz v es) {X : List Nat} : Sl { s with prot := X ++ s.prot } e sz v es := by
 cases h with
 | nil c hv hl => exact .nil c hv hl
 | block b off cap c hv hg hb hcap hc => exact .block b off cap c hv hg hb hcap hc
def qB (l : List Int) : Nat → Nat
 | 0 => 0
 | n + 1 => if l.getD n 0 = 0 then qB l n else n + 1
theorem nlen_le (l : List Int) : ∀ n, qB l n ≤ n
 | 0 => Nat.le_refl _
 | n + 1 => by simp only [qB]; split; { have := nlen_le l n; omega }; { omega }
def nv (a : Option Addr) (n cap : Nat) : Value := if n = 0 then .slice none 0 0 else .slice a n cap
set_option maxHeartbeats 4000000 in
set_option maxRecDepth 10000 in
theorem digit_ok {I : zJ} (hI : Plain I) {s : St} {v : Value} {l : List Int} {i : Int} (hl : SlD s v l) (hi : 0 ≤ i) : ∃ v' s', yE Tryz.prog I 211 #[v, .int .i64 i] s v' s' ∧ (v' = .int .i64 (l.getD i.toNat 0) ∧ s' = s) := by
 obtain ⟨a, len, cap, rfl, hn⟩ := hl.isSlice
 rw [List.length_map] at hn
 subst hn
 refine zY 2 (hI 211 (by decide) (by decide) (by decide) (by decide)) Tryz.func211 rfl fb211 rfl ?_
 refine zc (za rfl (zk (zb (zq (zc (za rfl (zd rfl (za rfl (zp rfl (za rfl (yf xO rfl rfl rfl (za rfl (yq rfl rfl (fun h => ?_) (fun h => ?_))))))))))))))
 ·refine zb (zE rfl (zc (za rfl (zp rfl (za rfl (zd rfl ?_))))))
  obtain ⟨b, off, c, rfl, hg, hb, hc⟩ := hl.atD (i := i) (k := i.toNat) (by omega) (by omega)
  refine za rfl (zM el22 rfl rfl (by omega) (by omega) (za rfl (zj sh3 rfl hg hc (za rfl (zm rfl (zb (zF (zV (zt (z6 ?_))))))))))
  exact ⟨rfl, rfl⟩
 refine zb (zx rfl (zA (zi (zc (za rfl (zk (zb (zF (zt (z6 (⟨congrArg (Value.int .i64) ?_, rfl⟩)))))))))))
 rw [List.getD_eq_getElem?_getD, List.getElem?_eq_none (by omega)]
 rfl
set_option maxHeartbeats 4000000 in
set_option maxRecDepth 10000 in
theorem xE {I : zJ} (hI : Plain I) {s : St} (hf : Fine s) {a : Option Addr} {cap : Nat} {neg : Bool} {l : List Int} (hl : SlD s (.slice a l.length cap) l) (hlen : l.length ≤ 1000) (hroom : s.next + 1 ≤ zh) :
  ∃ v' s', yE Tryz.prog I 167 #[.bool neg, .slice a l.length cap] s v' s' ∧ (v' = .agg ⟨[.bool (if qB l l.length = 0 then false else neg), nv a (qB l l.length) cap]⟩ ∧ HL [] s s' [] 1) := by
 have H := hf.hl
 have hcap := hl.cap
 have hle := nlen_le l l.length
 refine zY 2 (hI 167 (by decide) (by decide) (by decide) (by decide)) Tryz.func167 rfl fb167 rfl ?_
 refine zc (za rfl (zC H zf56 (by unfold zh at *; omega) (fun b4 s1 H => ?_)))
 refine zb (zc (za rfl (zp rfl (za rfl (yf xO rfl rfl rfl (za rfl (zm rfl (zb (zq (zI (yP (fun k F s1 => ∃ (G : FF) (m : Nat), F = lay G [(0, .bool neg), (1, .slice a l.length cap), (4, .pointer (some ⟨b4, 0, none⟩)), (5, .int .i64 (m : Int))] ∧ HL [] s s1 [(b4, .cells [.bool false, .slice none 0 0] 56)] 1 ∧ m ≤ l.length ∧ k = m ∧ qB l l.length = qB l m) ?_ l.length _ _ ?_)))))))))))
 rotate_left
 ·exact ⟨_, l.length, yd ⟨rfl, rfl, rfl, rfl, trivial⟩, H, by omega, rfl, rfl⟩
 rintro k F s1 ⟨G, m, rfl, H, hm, rfl, hn⟩
 refine zq (zc (za rfl (zd rfl (za rfl (qc rfl rfl (fun h => ?_) (fun h => ?_))))))
 ·refine za rfl (zl rfl (za rfl (zp rfl (za rfl (zd rfl (za rfl (op_sub rfl rfl (by unfold zQ; (unfold zh at *; omega)) (za rfl (op_max rfl rfl rfl ?_)))))))))
  obtain ⟨b, off, c, rfl, hg, hb, hc⟩ := (hl.kept H).atD (i := max ((k : Int) - 1) 0) (k := k - 1) (by omega) (by omega)
  refine za rfl (zM el22 rfl rfl (by unfold zh at *; omega) (by unfold zh at *; omega) (za rfl (zj sh3 rfl hg hc (za rfl (xf rfl rfl (fun h => ?_) (fun h => ?_))))))
  ·refine za rfl (zK rfl rfl (zb (zE rfl (zA (zi (zI (zv (za rfl (zd rfl (za rfl (op_sub rfl rfl (by unfold zQ; (unfold zh at *; omega)) (za rfl (zm rfl (zb (zP ?_)))))))))))))))
   refine zN ?_
   obtain ⟨m, rfl⟩ : ∃ j, k = j + 1 := ⟨k - 1, by omega⟩
   simp only [Nat.add_sub_cancel] at h
   refine ⟨m, by omega, _, m, yd ⟨rfl, rfl, rfl, by show Value.int .i64 (((m + 1 : Nat) : Int) - 1) = _; congr 1; omega, trivial⟩, H, by omega, rfl, ?_⟩
   rw [hn, qB, if_pos h]
  refine za rfl (zK rfl rfl (zb (zx rfl (yn (zX (yh (ye (zi (zq (zc (za rfl (zd rfl (za rfl (xf rfl rfl (fun h => ?_) (fun h => ?_)))))))))))))))
  ·refine zb (zE rfl ?_)
   exfalso
   omega
  refine zb (zx rfl (zA (zi (zc (za rfl (zl rfl (za rfl (zp rfl (za rfl (zd rfl (za rfl (op_sliceHi sl22 rfl rfl rfl hg (by omega) (za rfl (yN (c := [.bool _, .slice _ _ _]) bf56 rfl (za rfl (zD (vs := [.bool _, .slice _ _ _]) H qy rfl rfl rfl rfl rfl (by unfold zh at *; omega) (fun s2 H => ?_)))))))))))))))))
  refine zb (zF (zt (xB qz rfl H.own0 rfl (⟨?_, H.drop0⟩))))
  have hk : qB l k = k := by
   obtain ⟨m, rfl⟩ : ∃ j, k = j + 1 := ⟨k - 1, by omega⟩
   rw [qB, if_neg (by assumption)]
  rw [hn, hk, if_neg (by omega), nv, if_neg (by omega)]
 refine za rfl (zl rfl (zg rfl (zg rfl (zg rfl (zg rfl (zg rfl (zg rfl (zg rfl (za rfl (zZ rfl (zb (zx rfl (yn ?_)))))))))))))
 refine zX (yh (ye (zi (zq (zc (za rfl (zd rfl (za rfl (xf rfl rfl (fun h => ?_) (fun h => ?_))))))))))
 ·refine zb (zE rfl (zc (za rfl (yN (c := [.bool _, .slice _ _ _]) bf56 rfl (za rfl (zD (vs := [.bool _, .slice _ _ _]) H qy rfl rfl rfl rfl rfl (by unfold zh at *; omega) (fun s3 H => ?_)))))))
  refine zb (zF (zV (zt (xB qz rfl H.own0 rfl (⟨?_, H.drop0⟩)))))
  have hz : k = 0 := by omega
  rw [hn, hz]
  rfl
 refine zb (zx rfl (zA (zi ?_)))
 exfalso
 omega
def cmpD (la lb : List Int) : Nat → Int
 | 0 => 0
 | n + 1 => if la.getD n 0 < lb.getD n 0 then -1 else if lb.getD n 0 < la.getD n 0 then 1 else cmpD la lb n
def cmpZ (la lb : List Int) : Int := if la.length < lb.length then -1 else if lb.length < la.length then 1 else cmpD la lb la.length
set_option maxHeartbeats 4000000 in
set_option maxRecDepth 10000 in
theorem compared_ok {I : zJ} (hI : Plain I) {s : St} {va vb : Value} {la lb : List Int} (ha : SlD s va la) (hb : SlD s vb lb) (hlen : la.length ≤ 1000) (hroom : s.next ≤ zh) : ∃ v' s', yE Tryz.prog I 169 #[va, vb] s v' s' ∧ (v' = .int .i64 (cmpZ la lb) ∧ s' = s) := by
 obtain ⟨a, len, cap, rfl, hn⟩ := ha.isSlice
 rw [List.length_map] at hn
 subst hn
 obtain ⟨a2, len2, cap2, rfl, hn2⟩ := hb.isSlice
 rw [List.length_map] at hn2
 subst hn2
 refine zY 2 (hI 169 (by decide) (by decide) (by decide) (by decide)) Tryz.func169 rfl fb169 rfl ?_
 refine zc (za rfl (zk (zb (zq (zc (za rfl (zp rfl (za rfl (yf xO rfl rfl rfl (za rfl (zp rfl (za rfl (yf xO rfl rfl rfl (za rfl (yq rfl rfl (fun h => ?_) (fun h => ?_))))))))))))))))
 ·refine zb (zE rfl (zc (za rfl (zk (zb (zF (zV (zt (z6 (⟨congrArg (Value.int .i64) ?_, rfl⟩))))))))))
  unfold cmpZ
  rw [if_pos (by omega)]
 refine zb (zx rfl (zA (zi (zq (zc (za rfl (zp rfl (za rfl (yf xO rfl rfl rfl (za rfl (zp rfl (za rfl (yf xO rfl rfl rfl (za rfl (qc rfl rfl (fun h => ?_) (fun h => ?_))))))))))))))))
 ·refine zb (zE rfl (zc (za rfl (zk (zb (zF (zV (zt (z6 (⟨congrArg (Value.int .i64) ?_, rfl⟩))))))))))
  unfold cmpZ
  rw [if_neg (by omega), if_pos (by omega)]
 refine zb (zx rfl (zA (zi (zq (zc (za rfl (zp rfl (za rfl (yf xO rfl rfl rfl (za rfl (op_sub rfl rfl (by unfold zQ; (unfold zh at *; omega)) (za rfl (zm rfl (zb (zI ?_)))))))))))))))
 refine yP (fun k F s1 => ∃ (G : FF) (m : Nat), F = lay G [(0, .slice a la.length cap), (1, .slice a2 lb.length cap2), (5, .int .i64 ((m : Int) - 1))] ∧ s1 = s ∧ m ≤ la.length ∧ k = m ∧ cmpD la lb la.length = cmpD la lb m) ?_ la.length _ _ ?_
 rotate_left
 ·exact ⟨_, la.length, yd ⟨rfl, rfl, rfl, trivial⟩, rfl, by omega, rfl, rfl⟩
 rintro k F s1 ⟨G, m, rfl, rfl, hm, rfl, hn⟩
 refine zq (zc (za rfl (zd rfl (za rfl (qd rfl rfl (fun h => ?_) (fun h => ?_))))))
 ·refine zb (zE rfl (zA (zi (zq (zI (zq ?_))))))
  obtain ⟨m, rfl⟩ : ∃ j, k = j + 1 := ⟨k - 1, by omega⟩
  obtain ⟨b1, off1, c1, rfl, hg1, hb1, hc1⟩ := ha.atD (i := ((m + 1 : Nat) : Int) - 1) (k := m) (by omega) (by omega)
  obtain ⟨b2, off2, c2, rfl, hg2, hb2, hc2⟩ := hb.atD (i := ((m + 1 : Nat) : Int) - 1) (k := m) (by omega) (by omega)
  have hl1 : b1 < zh := by omega
  have hl2 : b2 < zh := by omega
  refine yC [⟨0, 0, .light, [7]⟩, ⟨1, 0, .light, [7]⟩, ⟨2, 3, .light, [7]⟩, ⟨3, 7, .light, [7]⟩, ⟨4, 0, .light, [3]⟩, ⟨5, 0, .light, [3]⟩, ⟨6, 48, .light, [3]⟩, ⟨7, 112, .light, [3]⟩, ⟨8, 255, .light, []⟩] (by kernel_rfl) (by kernel_rfl) (ze rfl rfl (zp rfl ⟨rfl, (ze rfl rfl (zd rfl ⟨rfl, (ze rfl rfl (zM el22 rfl rfl (by unfold zh at *; omega) (by unfold zh at *; omega) ⟨rfl, (zy rfl rfl sh3 rfl hg1 hl1 hc1 (ze rfl rfl (zp rfl ⟨rfl, (ze rfl rfl (zd rfl ⟨rfl, (ze rfl rfl (zM el22 rfl rfl (by unfold zh at *; omega) (by unfold zh at *; omega) ⟨rfl, (zy rfl rfl sh3 rfl hg2 hl2 hc2 (ze rfl rfl (yq rfl rfl (fun h => ⟨rfl, ?_⟩) (fun h => ⟨rfl, ?_⟩))))⟩))⟩))⟩)))⟩))⟩))⟩))
  ·refine z2 (zE rfl (zc (za rfl (zk (zb (zF (zV (yz (zV (qC (yz (zV ?_))))))))))))
   refine zt (z6 (⟨congrArg (Value.int .i64) ?_, rfl⟩))
   unfold cmpZ
   rw [if_neg (by omega), if_neg (by omega), hn, cmpD, if_pos (by assumption)]
  refine z2 (zx rfl (zA (zi (yC [⟨0, 0, .light, [7]⟩, ⟨1, 0, .light, [7]⟩, ⟨2, 3, .light, [7]⟩, ⟨3, 7, .light, [7]⟩, ⟨4, 0, .light, [3]⟩, ⟨5, 0, .light, [3]⟩, ⟨6, 48, .light, [3]⟩, ⟨7, 112, .light, [3]⟩, ⟨8, 255, .light, []⟩] (by kernel_rfl) (by kernel_rfl) (ze rfl rfl (zp rfl ⟨rfl, (ze rfl rfl (zd rfl ⟨rfl, (ze rfl rfl (zM el22 rfl rfl (by unfold zh at *; omega) (by unfold zh at *; omega) ⟨rfl, (zy rfl rfl sh3 rfl hg1 hl1 hc1 (ze rfl rfl (zp rfl ⟨rfl, (ze rfl rfl (zd rfl ⟨rfl, (ze rfl rfl (zM el22 rfl rfl (by unfold zh at *; omega) (by unfold zh at *; omega) ⟨rfl, ?_⟩))⟩))⟩)))⟩))⟩))⟩))))))
  refine zy rfl rfl sh3 rfl hg2 hl2 hc2 (ze rfl rfl (qc rfl rfl (fun h => ⟨rfl, ?_⟩) (fun h => ⟨rfl, ?_⟩)))
  ·refine z2 (zE rfl (zc (za rfl (zk (zb (zF (yz (zV (qC (yz (zV (zt ?_))))))))))))
   refine z6 (⟨congrArg (Value.int .i64) ?_, rfl⟩)
   unfold cmpZ
   rw [if_neg (by omega), if_neg (by omega), hn, cmpD, if_neg (by assumption), if_pos (by assumption)]
  refine z2 (zx rfl (zA (zP (zi (zv (za rfl (zd rfl (za rfl (op_sub rfl rfl (by unfold zQ; (unfold zh at *; omega)) (za rfl (zm rfl (zb (zN (⟨m, by omega, _, m, yd ⟨rfl, rfl, by show Value.int .i64 (((m + 1 : Nat) : Int) - 1 - 1) = _; congr 1; omega, trivial⟩, rfl, by omega, rfl, ?_⟩))))))))))))))
  rw [hn, cmpD, if_neg (by assumption), if_neg (by assumption)]
 refine zb (zx rfl (yn (zX (yh (ye (zi (zc (za rfl (zk (zb (zF (zt ?_))))))))))))
 refine z6 (⟨congrArg (Value.int .i64) ?_, rfl⟩)
 unfold cmpZ
 rw [if_neg (by omega), if_neg (by omega), hn, show k = 0 by omega]
 rfl
inductive SlIn (D : Hp') (v : Value) (l : List Int) : Prop
 | nil (c : Nat) (hv : v = .slice none 0 c) (hl : l = []) : SlIn D v l
 | block (b off cap : Nat) (c : List Value) (hv : v = .slice (some ⟨b, off, none⟩) l.length cap) (hg : (b, .cells c 3) ∈ D) (hcap : l.length ≤ cap / 2) (hc : ∀ k, k < l.length → xd 1 (xy (off + k * 1) c) = some (dc (l.getD k 0))) : SlIn D v l
theorem SlIn.sl {D : Hp'} {v : Value} {l : List Int} (h : SlIn D v l) {W : List Nat} {s0 s : St} {L : Hp'} {n : Nat} (H : HL W s0 s L n) (hs : D ⊆ L) : SlD s v l := by
 cases h with
 | nil c hv hl => exact .nil c hv (by simp [hl])
 | block b off cap c hv hg hcap hc =>
  have ho := H.own _ (hs hg)
  exact .block b off cap c (by simpa using hv) ho.1 ho.2.1 (by simpa using hcap) fun k hk => by
   rw [List.length_map] at hk
   rw [hc k hk, getD_map hk]
theorem SlIn.mono {D D' : Hp'} {v : Value} {l : List Int} (h : SlIn D v l) (hs : D ⊆ D') : SlIn D' v l := by
 cases h with
 | nil c hv hl => exact .nil c hv hl
 | block b off cap c hv hg hcap hc => exact .block b off cap c hv (hs hg) hcap hc
theorem SlIn.take {D : Hp'} {a : Option Addr} {len cap : Nat} {l : List Int} (h : SlIn D (.slice a len cap) l) {m : Nat} (hm : m ≤ l.length) : SlIn D (nv a m cap) (l.take m) := by
 unfold nv
 by_cases hz : m = 0
 ·rw [if_pos hz]; subst hz; exact .nil 0 rfl (by simp)
 ·rw [if_neg hz]
  cases h with
  | nil c hv hl => rw [hl] at hm; simp at hm; omega
  | block b off cap c hv hg hcap hc =>
   cases hv
   have hlen : (l.take m).length = m := by simp; omega
   refine .block b off cap c (by rw [hlen]) hg (by omega) fun k hk => ?_
   rw [hlen] at hk
   rw [hc k (by omega)]
   simp [List.getD_eq_getElem?_getD, List.getElem?_take, hk]
theorem dc_flat {l : List Int} {k : Nat} (h : k < l.length) : xd 1 (xy (0 + k * 1) (z7 l)) = some (dc (l.getD k 0)) := by
 rw [xX, qi, Nat.zero_add, Nat.mul_one]
 have hl : (z7 l).length = l.length := by simp [z7]
 rw [if_pos (by rw [List.length_drop]; omega)]
 rw [List.drop_eq_getElem_cons (by omega), List.take_succ_cons, List.take_zero]
 simp [z7, dc, List.getD_eq_getElem?_getD, List.getElem?_eq_getElem h]
theorem Own.slIn {D : Hp'} {v : Value} {l : List Int} {len : Nat} (h : Own 3 1 D v (z7 l) len) : len = l.length ∧ SlIn D v l := by
 have hi : (z7 l).length = l.length := by simp [z7]
 generalize hc : z7 l = c at h
 cases h with
 | nil =>
  have : l = [] := by simpa [z7] using hc
  subst this
  exact ⟨rfl, .nil 0 rfl rfl⟩
 | block b cap c len hl hcap =>
  subst hc
  have e : len = l.length := by omega
  subst e
  exact ⟨rfl, .block b 0 cap _ rfl (by simp) (by omega) fun k hk => dc_flat hk⟩
end Go.Proofs.YtdejleegamcioaaGreat
namespace Go.Proofs.YtdejleegamcioaaGreat
open Go Go.M
theorem fb113 : yw Tryz.f113 (Tryz.f113.body.getD .skip) 1 = true := by kernel_rfl
theorem fc167 : yk Tryz.prog 167 = true := by kernel_rfl
def dgs : Nat → Nat → List Int
 | 0, _ => []
 | f + 1, n => if n = 0 then [] else ((n % 1000000000 : Nat) : Int) :: dgs f (n / 1000000000)
def Dig (l : List Int) : Prop := ∀ x ∈ l, 0 ≤ x ∧ x < 1000000000
theorem Dig.at {l : List Int} (h : Dig l) (k : Nat) : 0 ≤ l.getD k 0 ∧ l.getD k 0 < 1000000000 := by
 by_cases hk : k < l.length
 ·exact h _ (yu hk)
 ·rw [List.getD_eq_getElem?_getD, List.getElem?_eq_none (by omega)]; simp
theorem dgs_dig : ∀ f n, Dig (dgs f n)
 | 0, n => by intro x hx; cases hx
 | f + 1, n => by
  intro x hx
  simp only [dgs] at hx
  split at hx
  ·cases hx
  ·rcases List.mem_cons.mp hx with rfl | hx
   ·omega
   ·exact dgs_dig f _ x hx
theorem qG : ∀ f n, (dgs f n).length ≤ f
 | 0, n => Nat.le_refl _
 | f + 1, n => by
  simp only [dgs]
  split
  ·simp
  ·have := qG f (n / 1000000000); simp; omega
theorem dgs_small {n f : Nat} (h : n < 1000000000) : dgs (f + 1) n = if n = 0 then [] else [(n : Int)] := by
 simp only [dgs]
 split
 ·rfl
 ·have e1 : n % 1000000000 = n := Nat.mod_eq_of_lt h
  have e2 : n / 1000000000 = 0 := Nat.div_eq_of_lt h
  rw [e1, e2]
  cases f <;> simp [dgs]
theorem dgs_last : ∀ f n, n < 1000000000 ^ f → dgs f n = [] ∨ (dgs f n).getD ((dgs f n).length - 1) 0 ≠ 0
 | 0, n, _ => .inl rfl
 | f + 1, n, h => by
  simp only [dgs]
  by_cases hn : n = 0
  ·rw [if_pos hn]; exact .inl rfl
  ·rw [if_neg hn]
   right
   have h2 : n / 1000000000 < 1000000000 ^ f := by
    rw [Nat.pow_succ] at h
    exact Nat.div_lt_of_lt_mul (by rw [Nat.mul_comm]; exact h)
   rcases dgs_last f (n / 1000000000) h2 with h3 | h3
   ·rw [h3]
    have h4 : n / 1000000000 = 0 := by
     cases f with
     | zero => simpa using h2
     | succ f =>
      simp only [dgs] at h3
      split at h3
      ·assumption
      ·cases h3
    simp
    omega
   ·have h5 : 0 < (dgs f (n / 1000000000)).length := by
     cases hq : dgs f (n / 1000000000) with
     | nil => rw [hq] at h3; simp at h3
     | cons a b => simp
    obtain ⟨m, hm⟩ : ∃ m, (dgs f (n / 1000000000)).length = m + 1 := ⟨(dgs f (n / 1000000000)).length - 1, by omega⟩
    rw [hm, Nat.add_sub_cancel] at h3
    simp only [List.length_cons, hm, Nat.add_sub_cancel, List.getD_cons_succ]
    exact h3
theorem dgs_nil {f n : Nat} (h : n < 1000000000 ^ f) (he : dgs f n = []) : n = 0 := by
 cases f with
 | zero => simpa using h
 | succ f =>
  simp only [dgs] at he
  split at he
  ·assumption
  ·cases he
theorem ints_append (l r : List Int) : z7 (l ++ r) = z7 l ++ z7 r := by simp [z7]
theorem nlen_last {l : List Int} (h : l = [] ∨ l.getD (l.length - 1) 0 ≠ 0) : qB l l.length = l.length := by
 cases hn : l.length with
 | zero => rfl
 | succ m =>
  rcases h with h | h
  ·rw [h] at hn; simp at hn
  ·rw [hn, Nat.add_sub_cancel] at h
   rw [qB, if_neg h]
theorem nv_plain (a : Option Addr) (n c : Nat) : Go.M.plainCell (nv a n c) = true := by unfold nv; split <;> rfl
theorem tmod_abs {x : Int} (h : zQ x) : (0 ≤ x.tmod 1000000000 → x.tmod 1000000000 = ((x.natAbs % 1000000000 : Nat) : Int)) ∧ (x.tmod 1000000000 < 0 → IntKind.i64.wrap (0 - x.tmod 1000000000) = ((x.natAbs % 1000000000 : Nat) : Int)) := by
 have h1 : (x.tmod 1000000000).natAbs = x.natAbs % 1000000000 := by rw [Int.natAbs_tmod]; rfl
 constructor
 ·intro h0; omega
 ·intro h0; rw [wrap_in ⟨by omega, by omega⟩]; omega
theorem tdiv_abs (x : Int) : (x.tdiv 1000000000).natAbs = x.natAbs / 1000000000 := by rw [Int.natAbs_tdiv]; rfl
set_option maxHeartbeats 4000000 in
set_option maxRecDepth 10000 in
theorem of03_ok {I : zJ} (hI : Plain I) {s : St} (hf : Fine s) {n : Int} (hn : zQ n) (hroom : s.next + 10 ≤ zh) :
  ∃ v' s', yE Tryz.prog I 113 #[.int .i64 n] s v' s' ∧ (∃ D sl, v' = .agg ⟨[.bool (decide (n < 0)), sl]⟩ ∧ HL [] s s' D 10 ∧ SlIn D sl (dgs 3 n.natAbs)) := by
 have H := hf.hl
 have hn0 := hn
 obtain ⟨hn1, hn2⟩ := hn
 refine zY 1 (hI 113 (by decide) (by decide) (by decide) (by decide)) Tryz.func113 rfl fb113 rfl ?_
 refine zc (za rfl (zC H zf56 (by unfold zh at *; omega) (fun b2 s1 H => ?_)))
 refine zb (zc (za rfl (zk (zb (zc (za rfl (zd rfl (za rfl (op_lss' rfl rfl (za rfl (zw rfl (zb (zq (zI (yP (fun k F s1 => ∃ (G : FF) (x : Int) (D : Hp') (v : Value) (l : List Int) (f : Nat), F = lay G [(0, .int .i64 x), (2, .pointer (some ⟨b2, 0, none⟩)), (3, v), (4, .bool (decide (n < 0)))] ∧ HL [] s s1 (D ++ [(b2, .cells [.bool false, .slice none 0 0] 56)]) (1 + 2 * l.length) ∧ Own 3 1 D v (z7 l) l.length ∧ k = x.natAbs ∧ zQ x ∧ f + l.length = 3 ∧ dgs 3 n.natAbs = l ++ dgs f x.natAbs ∧ x.natAbs < 1000000000 ^ f) ?_ n.natAbs _ _ ?_)))))))))))))))
 rotate_left
 ·exact ⟨_, n, [], _, [], 3, yd ⟨rfl, rfl, rfl, rfl, trivial⟩, H, .nil, rfl, hn0, rfl, rfl, by omega⟩
 rintro k F s1 ⟨G, x, D, v, l, f, rfl, H, ho, rfl, hx, hfl, hdg, hlt⟩
 refine zq (zc (za rfl (zd rfl (za rfl (op_neq rfl rfl (fun h => ?_) (fun h => ?_))))))
 ·refine zb (zE rfl (zA (zi (zI (zc (za rfl (zd rfl (za rfl (op_rem rfl rfl (by unfold zh at *; omega) (za rfl (zm rfl (zb (zq (zc ?_))))))))))))))
  refine za rfl (zd rfl (za rfl (yq rfl rfl (fun h => ?_) (fun h => ?_))))
  ·refine zb (zE rfl (zv (za rfl (zd rfl (za rfl (op_neg rfl (za rfl (zm rfl (zb (zi (zc (za rfl (xu (za rfl (zd rfl (za rfl (ya (c := [.int _ _]) H sl22 rfl rfl (by unfold zh at *; omega) (fun b18 s2 H => ?_))))))))))))))))))
   have hgt := H.own0
   have H := H.drop0
   refine za rfl (yT H ho sl22 xO rfl rfl rfl (yH hgt rfl) (by decide) rfl rfl (by omega) (by unfold zh at *; omega) (fun b19 s19 H ho => ?_))
   refine za rfl (yb rfl (zb (zv (za rfl (zd rfl (za rfl (op_quo rfl rfl (by decide) (by have := tdiv_abs x; obtain ⟨hx1, hx2⟩ := hx; unfold zQ; omega) (za rfl (zm rfl (zb (zP (zN ?_))))))))))))
   have hd := tmod_abs hx
   have hdv : IntKind.i64.wrap (0 - x.tmod 1000000000) = ((x.natAbs % 1000000000 : Nat) : Int) := hd.2 (by omega)
   have hq := tdiv_abs x
   obtain ⟨f, rfl⟩ : ∃ j, f = j + 1 := ⟨f - 1, by cases f with | zero => simp at hlt; omega | succ f => omega⟩
   have hne : x.natAbs ≠ 0 := by omega
   refine ⟨(x.tdiv 1000000000).natAbs, by omega, _, x.tdiv 1000000000, [(b19, .cells (z7 l ++ [.int .i64 (IntKind.i64.wrap (0 - x.tmod 1000000000))]) 3)], .slice (some ⟨b19, 0, none⟩) (l.length + 1) (2 * (l.length + 1) + 1), l ++ [((x.natAbs % 1000000000 : Nat) : Int)], f, yd ⟨rfl, rfl, rfl, rfl, trivial⟩, ?_, ?_, rfl, ?_, by simp; omega, ?_, ?_⟩
   ·rw [List.length_append, List.length_singleton]
    exact H.up (by omega)
   ·rw [ints_append, List.length_append, ← hdv]
    exact ho
   ·obtain ⟨hx1, hx2⟩ := hx
    unfold zQ
    omega
   ·rw [hdg, dgs, if_neg hne, hq]
    simp
   ·rw [hq]
    rw [Nat.pow_succ] at hlt
    exact Nat.div_lt_of_lt_mul (by rw [Nat.mul_comm]; exact hlt)
  refine zb (zx rfl (zA (zi (zc (za rfl (xu (za rfl (zd rfl (za rfl (ya (c := [.int _ _]) H sl22 rfl rfl (by unfold zh at *; omega) (fun b18 s3 H => ?_)))))))))))
  have hgt := H.own0
  have H := H.drop0
  refine za rfl (yT H ho sl22 xO rfl rfl rfl (yH hgt rfl) (by decide) rfl rfl (by omega) (by unfold zh at *; omega) (fun b19 s19 H ho => ?_))
  refine za rfl (yb rfl (zb (zv (za rfl (zd rfl (za rfl (op_quo rfl rfl (by decide) (by have := tdiv_abs x; obtain ⟨hx1, hx2⟩ := hx; unfold zQ; omega) (za rfl (zm rfl (zb (zP (zN ?_))))))))))))
  have hd := tmod_abs hx
  have hdv : x.tmod 1000000000 = ((x.natAbs % 1000000000 : Nat) : Int) := hd.1 (by omega)
  have hq := tdiv_abs x
  obtain ⟨f, rfl⟩ : ∃ j, f = j + 1 := ⟨f - 1, by cases f with | zero => simp at hlt; omega | succ f => omega⟩
  have hne : x.natAbs ≠ 0 := by omega
  refine ⟨(x.tdiv 1000000000).natAbs, by omega, _, x.tdiv 1000000000, [(b19, .cells (z7 l ++ [.int .i64 (x.tmod 1000000000)]) 3)], .slice (some ⟨b19, 0, none⟩) (l.length + 1) (2 * (l.length + 1) + 1), l ++ [((x.natAbs % 1000000000 : Nat) : Int)], f, yd ⟨rfl, rfl, rfl, rfl, trivial⟩, ?_, ?_, rfl, ?_, by simp; omega, ?_, ?_⟩
  ·rw [List.length_append, List.length_singleton]
   exact H.up (by omega)
  ·rw [ints_append, List.length_append, ← hdv]
   exact ho
  ·obtain ⟨hx1, hx2⟩ := hx
   unfold zQ
   omega
  ·rw [hdg, dgs, if_neg hne, hq]
   simp
  ·rw [hq]
   rw [Nat.pow_succ] at hlt
   exact Nat.div_lt_of_lt_mul (by rw [Nat.mul_comm]; exact hlt)
 refine zb (zx rfl (yn (zX (yh (ye (zi (zc (za rfl (zl rfl (za rfl (xu ?_)))))))))))
 obtain ⟨_, hsl⟩ := Own.slIn ho
 have hx0 : x = 0 := by omega
 subst hx0
 have hlq : l = dgs 3 n.natAbs := by rw [hdg]; cases f <;> simp [dgs]
 have hlast := nlen_last (dgs_last 3 n.natAbs (by omega))
 obtain ⟨a, len, cap, rfl, hle⟩ := (hsl.sl H (by simp)).isSlice
 rw [List.length_map] at hle
 subst hle
 refine za rfl (zo rfl fc167 rfl ?_)
 obtain ⟨_, s9, hr, rfl, Hc⟩ := xE (neg := decide (n < 0)) hI H.fine (hsl.sl H (by simp)) (by omega) (by have := H.most; unfold zh at *; omega)
 refine ⟨_, _, hr, ?_⟩
 clear hr
 have H := H.call0 Hc
 clear Hc
 rw [← hlq] at hlast
 rw [hlast]
 refine za rfl (op_storeA (A := D) H qy rfl rfl rfl (by show List.all [_, _] Go.M.plainCell = true; simp only [List.all_cons, List.all_nil, nv_plain]; rfl) rfl (by unfold zh at *; omega) (fun s20 H => ?_))
 refine zb (zF (zt (xB qz rfl H.ownA rfl ?_)))
 have hneg : (if l.length = 0 then false else decide (n < 0)) = decide (n < 0) := by
  split
  ·next h0 =>
   have := dgs_nil (f := 3) (n := n.natAbs) (by omega) (by rw [← hlq]; exact List.length_eq_zero_iff.mp h0)
   have : n = 0 := by omega
   subst this
   rfl
  ·rfl
 refine ⟨D, nv a l.length cap, ?_, H.left.up (by omega), ?_⟩
 ·rw [hneg]
 ·rw [← hlq]
  have := hsl.take (m := l.length) (Nat.le_refl _)
  rwa [List.take_length] at this
end Go.Proofs.YtdejleegamcioaaGreat
namespace Go.Proofs.YtdejleegamcioaaGreat
open Go Go.M
theorem fb209 : yw Tryz.f209 (Tryz.f209.body.getD .skip) 1 = true := by kernel_rfl
theorem fc211 : yk Tryz.prog 211 = true := by kernel_rfl
theorem fb170 : yw Tryz.f170 (Tryz.f170.body.getD .skip) 2 = true := by kernel_rfl
set_option maxHeartbeats 4000000 in
set_option maxRecDepth 10000 in
theorem tiny_ok {I : zJ} (hI : Plain I) {s : St} {v : Value} {l : List Int} (hl : SlD s v l) (hd : Dig l) : ∃ v' s', yE Tryz.prog I 209 #[v] s v' s' ∧ (v' = .int .i64 (l.getD 1 0 * 1000000000 + l.getD 0 0) ∧ s' = s) := by
 have h0 := hd.at 0
 have h1 := hd.at 1
 refine zY 1 (hI 209 (by decide) (by decide) (by decide) (by decide)) Tryz.func209 rfl fb209 rfl ?_
 refine zc (za rfl (zk (zb (zc (za rfl (xu (za rfl (zo rfl fc211 rfl ?_))))))))
 obtain ⟨_, _, hr, rfl, rfl⟩ := digit_ok (i := 1) hI hl (by decide)
 refine ⟨_, _, hr, ?_⟩
 clear hr
 refine za rfl (op_mul rfl rfl (by show zQ (l.getD 1 0 * 1000000000); unfold zQ; omega) (za rfl (xu (za rfl (zo rfl fc211 rfl ?_)))))
 obtain ⟨_, _, hr, rfl, rfl⟩ := digit_ok (i := 0) hI hl (by decide)
 refine ⟨_, _, hr, ?_⟩
 clear hr
 refine za rfl (zT rfl rfl (by show zQ (l.getD 1 0 * 1000000000 + l.getD 0 0); unfold zQ; omega) (za rfl (zm rfl (zb (zF (zt (z6 ?_)))))))
 exact ⟨rfl, rfl⟩
theorem ints_rep (n : Nat) : z7 (List.replicate (n + 1) 0) = z7 (List.replicate n 0) ++ [.int .i64 0] := by
 rw [List.replicate_succ', ints_append]; rfl
set_option maxHeartbeats 4000000 in
set_option maxRecDepth 10000 in
theorem minus_ok {I : zJ} (hI : Plain I) {s : St} (hf : Fine s) {va vb : Value} {l : List Int} (ha : SlD s va l) (hb : SlD s vb l) (hd : Dig l) (hlen : l.length ≤ 4) (hroom : s.next + 10 ≤ zh) :
  ∃ v' s', yE Tryz.prog I 170 #[va, vb] s v' s' ∧ (∃ D, HL [] s s' D 10 ∧ SlIn D v' (List.replicate l.length 0)) := by
 have H := hf.hl
 obtain ⟨a, len, cap, rfl, hn⟩ := ha.isSlice
 rw [List.length_map] at hn
 subst hn
 obtain ⟨a2, len, cap2, rfl, hn⟩ := hb.isSlice
 rw [List.length_map] at hn
 subst hn
 refine zY 2 (hI 170 (by decide) (by decide) (by decide) (by decide)) Tryz.func170 rfl fb170 rfl ?_
 refine zc (za rfl (zk (zb (zc (za rfl (zk (zb (zc (za rfl (zk (zb (zq (zc (za rfl (zk ?_)))))))))))))))
 refine zb (zI (yP (fun k F s1 => ∃ (G : FF) (D : Hp') (v : Value) (i : Nat), F = lay G [(0, .slice a l.length cap), (1, .slice a2 l.length cap2), (5, v), (6, .int .i64 0), (7, .int .i64 (i : Int))] ∧ HL [] s s1 D (2 * i) ∧ Own 3 1 D v (z7 (List.replicate i 0)) i ∧ i ≤ l.length ∧ k = l.length - i) ?_ l.length _ _ ?_))
 rotate_left
 ·exact ⟨_, [], _, 0, yd ⟨rfl, rfl, rfl, rfl, rfl, trivial⟩, H, .nil, by omega, by omega⟩
 rintro k F s1 ⟨G, D, v, i, rfl, H, ho, hi, rfl⟩
 have hdi := hd.at i
 refine zq (zc (za rfl (zd rfl (za rfl (zp rfl (za rfl (yf xO rfl rfl rfl (za rfl (yq rfl rfl (fun h => ?_) (fun h => ?_))))))))))
 ·refine zb (zE rfl (zA (zi (zq (zI ?_)))))
  obtain ⟨b1, off1, c1, rfl, hg1, hb1, hc1⟩ := (ha.kept H).atD (i := (i : Int)) (k := i) rfl (by omega)
  have hl1 : b1 < zh := by have := H.most; unfold zh at *; omega
  refine yC [⟨0, 0, .light, []⟩, ⟨1, 0, .light, []⟩, ⟨2, 3, .light, []⟩, ⟨3, 7, .light, []⟩, ⟨4, 0, .light, [3]⟩, ⟨5, 0, .light, [3]⟩, ⟨8, 0, .light, [3]⟩, ⟨6, 48, .whole, [3]⟩, ⟨7, 127, .light, []⟩, ⟨9, 511, .light, []⟩, ⟨10, 1023, .light, []⟩] (by kernel_rfl) (by kernel_rfl) (ze rfl rfl (zp rfl ⟨rfl, (ze rfl rfl (zd rfl ⟨rfl, (ze rfl rfl (zM el22 rfl rfl (by unfold zh at *; omega) (by unfold zh at *; omega) ⟨rfl, (zy rfl rfl sh3 rfl hg1 hl1 hc1 (ze rfl rfl (zp rfl ⟨rfl, (ze rfl rfl (zd rfl ⟨rfl, (ze rfl rfl (zd rfl ⟨rfl, (zU rfl rfl (zo rfl fc211 rfl ?_))⟩))⟩))⟩)))⟩))⟩))⟩))
  obtain ⟨_, _, hr, rfl, rfl⟩ := digit_ok (s := _) (i := (i : Int)) hI ((hb.kept H).prot (X := [b1])) (by omega)
  rw [Int.toNat_natCast] at hr
  refine ⟨_, _, hr, ?_⟩
  clear hr
  refine ze rfl rfl (op_sub rfl rfl (by show zQ (l.getD i 0 - l.getD i 0); unfold zQ; omega) ⟨rfl, (ze rfl rfl (op_sub rfl rfl (by show zQ (l.getD i 0 - l.getD i 0 - 0); unfold zQ; omega) ⟨rfl, (ze rfl rfl (zm rfl ⟨rfl, (z2 (zc (za rfl (zk (zb (zq (zc (za rfl (zd rfl (za rfl (yq rfl rfl (fun h => False.elim (by have h2 : l.getD i 0 - l.getD i 0 - 0 < 0 := h; omega)) (fun h => ?_))))))))))))⟩))⟩))⟩)
  refine zb (zx rfl (zA (zi (zv (za rfl (xu (za rfl (zd rfl (za rfl (ya (c := [.int _ _]) H sl22 rfl rfl (by unfold zh at *; omega) (fun b31 s1 H => ?_)))))))))))
  have hgt := H.own0
  have H := H.drop0
  refine za rfl (yT (L := []) (D := D) (by rw [List.append_nil]; exact H) ho sl22 xO rfl rfl rfl (yH hgt rfl) (by decide) rfl rfl (by omega) (by unfold zh at *; omega) (fun b32 s32 H ho => ?_))
  refine za rfl (yb rfl (zb (zP (zi (zv (za rfl (zd rfl (za rfl (zT rfl rfl (by unfold zQ; (unfold zh at *; omega)) (za rfl (zm rfl (zb (zN (⟨l.length - (i + 1), by omega, _, _, .slice (some ⟨b32, 0, none⟩) (i + 1) (2 * (i + 1) + 1), i + 1, yd ⟨rfl, rfl, rfl, rfl, rfl, trivial⟩, H.up (by omega), ?_, by omega, rfl⟩))))))))))))))
  rw [ints_rep]
  have hz : l.getD i 0 - l.getD i 0 - 0 = 0 := by omega
  rw [hz] at ho
  rw [hz]
  exact ho
 refine zb (zx rfl (yn (zX (yh (ye (zi (zc (za rfl (xu (za rfl (op_assign (zb (zF ?_)))))))))))))
 refine zt (z6 ?_)
 have hi2 : i = l.length := by omega
 subst hi2
 obtain ⟨_, hsl⟩ := Own.slIn ho
 exact ⟨D, H.up (by omega), hsl⟩
end Go.Proofs.YtdejleegamcioaaGreat
namespace Go.Proofs.YtdejleegamcioaaGreat
open Go Go.M
theorem fb116 : yw Tryz.f116 (Tryz.f116.body.getD .skip) 2 = true := by kernel_rfl
theorem of56_0 : offF Tryz.prog 56 0 = some 0 := by kernel_rfl
theorem yK : offF Tryz.prog 56 1 = some 1 := by kernel_rfl
theorem qp : z1 Tryz.prog 22 = some (none) := by kernel_rfl
theorem sh4 : z1 Tryz.prog 4 = some (none) := by kernel_rfl
theorem sz3 : yR Tryz.prog 3 = some 1 := by kernel_rfl
theorem repL_ints : ∀ n, repL [.int .i64 0] n = z7 (List.replicate n 0)
 | 0 => rfl
 | n + 1 => by rw [repL, repL_ints n, List.replicate_succ]; rfl
theorem lput_ints {x : Int} : ∀ {o : List Int} {k : Nat}, k < o.length → lput k [.int .i64 x] (z7 o) = some (z7 (o.set k x))
 | [], _, h => by simp at h
 | y :: o, 0, _ => rfl
 | y :: o, k + 1, h => by
  have := lput_ints (x := x) (o := o) (k := k) (by simpa using h)
  simp only [z7, List.map_cons, lput] at this ⊢
  rw [this]
  rfl
theorem lget_ints' {o : List Int} {k m : Nat} (hk : k < o.length) (hm : m = k) : yo (z7 o) m = some (.int .i64 (o.getD k 0)) := by
 subst hm
 rw [yx]
 simp [z7, List.getElem?_map, List.getD_eq_getElem?_getD, List.getElem?_eq_getElem hk]
theorem lput_ints' {x : Int} {o : List Int} {k m : Nat} (hk : k < o.length) (hm : m = k) : lput m [.int .i64 x] (z7 o) = some (z7 (o.set k x)) := by
 subst hm; exact lput_ints hk
theorem nlen_app {l r : List Int} : ∀ n, n ≤ l.length → qB (l ++ r) n = qB l n
 | 0, _ => rfl
 | n + 1, h => by
  simp only [qB]
  have e : (l ++ r).getD n 0 = l.getD n 0 := by
   simp only [List.getD_eq_getElem?_getD]
   rw [List.getElem?_append_left (by omega)]
  rw [e, nlen_app n (by omega)]
set_option maxHeartbeats 4000000 in
set_option maxRecDepth 10000 in
theorem mul1_ok {I : zJ} (hI : Plain I) {s : St} (hf : Fine s) {n1 n2 : Bool} {s1 s2 : Value} {lb : List Int} (ha : SlD s s1 [1]) (hb : SlD s s2 lb) (hd : Dig lb) (hnl : qB lb lb.length = lb.length) (hlen : lb.length ≤ 4) (hroom : s.next + 10 ≤ zh) :
  ∃ v' s', yE Tryz.prog I 116 #[.agg ⟨[.bool n1, s1]⟩, .agg ⟨[.bool n2, s2]⟩] s v' s' ∧ (∃ D nb sl, v' = .agg ⟨[.bool nb, sl]⟩ ∧ HL [] s s' D 10 ∧ SlIn D sl lb) := by
 have H := hf.hl
 obtain ⟨a1, len, cap1, rfl, hn⟩ := ha.isSlice
 simp only [List.length_map, List.length_cons, List.length_nil, Nat.zero_add] at hn
 subst hn
 obtain ⟨a2, len, cap2, rfl, hn⟩ := hb.isSlice
 rw [List.length_map] at hn
 subst hn
 refine zY 2 (hI 116 (by decide) (by decide) (by decide) (by decide)) Tryz.func116 rfl fb116 rfl ?_
 refine zc (za rfl (xc H rfl (by unfold zh at *; omega) (fun b2 s1 H => ?_)))
 refine za rfl (xc H rfl (by unfold zh at *; omega) (fun b3 s2 H => ?_))
 refine za rfl (zC H zf56 (by unfold zh at *; omega) (fun b4 s3 H => ?_))
 refine zb (zc (za rfl (zf yK rfl (za rfl (zj qp rfl H.own2 rfl (za rfl (yf xO rfl rfl rfl (za rfl (zf yK rfl (za rfl (zj qp rfl H.own1 rfl (za rfl (yf xO rfl rfl rfl (za rfl (zT rfl rfl (by unfold zQ; (unfold zh at *; omega)) (za rfl (op_makeSlice (a := 1 + lb.length) (b := 1 + lb.length) H sl22 rfl rfl (Nat.le_refl _) (by omega) (by unfold zh at *; omega) (fun b17 s17 H => ?_))))))))))))))))))
 refine za rfl (yb rfl (zb (zq ?_)))
 rw [repL_ints] at H
 refine zc (za rfl (zk (zb (zI (cw_unroll (zq (zc (za rfl (zd rfl (za rfl (zf yK rfl (za rfl (zj qp rfl H.own3 rfl (za rfl (yf xO rfl rfl rfl (za rfl (yq rfl rfl (fun h => ?_) (fun h => ?_))))))))))))))))))
 ·refine zb (zE rfl (zA (zi (zq (zI (zc (za rfl (zk (zb (zq (zc (za rfl (zk ?_)))))))))))))
  refine zb (zI (yP (fun k F s1 => ∃ (G : FF) (q : Nat), F = lay G [(2, .pointer (some ⟨b2, 0, none⟩)), (3, .pointer (some ⟨b3, 0, none⟩)), (4, .pointer (some ⟨b4, 0, none⟩)), (5, .slice (some ⟨b17, 0, none⟩) (1 + lb.length) (2 * (1 + lb.length))), (6, .int .i64 0), (7, .int .i64 0), (8, .int .i64 (q : Int))] ∧ HL [] s s1 [(b17, .cells (z7 (lb.take q ++ List.replicate (1 + lb.length - q) 0)) 3), (b4, .cells [.bool false, .slice none 0 0] 56), (b3, .cells [.bool n2, .slice a2 lb.length cap2] 56), (b2, .cells [.bool n1, .slice a1 1 cap1] 56)] 4 ∧ q ≤ lb.length ∧ k = lb.length - q) ?_ lb.length _ _ ?_))
  rotate_left
  ·exact ⟨_, 0, yd ⟨rfl, rfl, rfl, rfl, rfl, rfl, rfl, trivial⟩, H, by omega, by omega⟩
  rintro k F s1 ⟨G, q, rfl, H, hq, rfl⟩
  refine zq (zc (za rfl (zd rfl (za rfl (zf yK rfl (za rfl (zj qp rfl H.own2 rfl (za rfl (yf xO rfl rfl rfl (za rfl (yq rfl rfl (fun h => ?_) (fun h => ?_))))))))))))
  ·refine zb (zE rfl (zA (zi (zq (zI ?_)))))
   have hdq := hd.at q
   have hout : yo (z7 (lb.take q ++ List.replicate (1 + lb.length - q) 0)) (0 + ((0 : Int) + (q : Int)).toNat * 1) = some (.int .i64 0) := by
    rw [lget_ints' (k := q) (by simp; omega) (by omega)]
    congr 2
    rw [List.getD_eq_getElem?_getD, List.getElem?_append_right (by simp; omega)]
    simp [List.getElem?_replicate]
    split <;> rfl
   obtain ⟨b1, off1, c1, rfl, hg1, hb1, hc1⟩ := (ha.kept H).atD (i := 0) (k := 0) rfl (by simp)
   have hl1 : b1 < zh := by have := H.most; unfold zh at *; omega
   obtain ⟨b22, off2, c2, rfl, hg2, hb2, hc2⟩ := (hb.kept H).atD (i := (q : Int)) (k := q) rfl (by omega)
   have hl2 : b22 < zh := by have := H.most; unfold zh at *; omega
   refine yC [⟨0, 0, .light, [7, 10, 12, 15]⟩, ⟨1, 0, .light, [7, 10, 12, 15]⟩, ⟨2, 0, .light, [7, 10, 12, 15]⟩, ⟨3, 6, .light, [7, 10, 12, 15]⟩, ⟨4, 15, .light, [7, 10, 12, 15]⟩, ⟨5, 31, .light, [7, 10, 12, 15]⟩, ⟨6, 0, .light, [5, 12, 15]⟩, ⟨7, 64, .light, [5, 12, 15]⟩, ⟨8, 0, .light, [5, 7, 12, 15]⟩, ⟨9, 448, .light, [5, 12, 15]⟩, ⟨10, 960, .light, [5, 12, 15]⟩, ⟨11, 0, .light, [5, 7, 10]⟩, ⟨12, 2048, .light, [5, 7, 10]⟩, ⟨13, 0, .light, [5, 7, 10, 12]⟩, ⟨14, 14336, .light, [5, 7, 10]⟩, ⟨15, 30720, .light, [5, 7, 10]⟩, ⟨16, 65472, .light, [5]⟩, ⟨17, 131071, .light, []⟩, ⟨18, 0, .light, [5, 7, 10, 12, 15]⟩, ⟨19, 524287, .light, []⟩, ⟨20, 1048575, .light, []⟩] (by kernel_rfl) (by kernel_rfl) (ze rfl rfl (zp rfl ⟨rfl, (ze rfl rfl (zd rfl ⟨rfl, (ze rfl rfl (zd rfl ⟨rfl, (ze rfl rfl (zT rfl rfl (by unfold zQ; (unfold zh at *; omega)) ⟨rfl, (ze rfl rfl (zM el22 rfl rfl (by unfold zh at *; omega) (by unfold zh at *; omega) ⟨rfl, (zy rfl rfl sh3 rfl H.own0 (H.lim0 (by unfold zh at *; omega)) hout (ze rfl rfl (zf yK rfl ⟨rfl, (zy rfl rfl qp rfl H.own3 (by exact H.lim3 (by unfold zh at *; omega)) rfl (ze rfl rfl (zd rfl ⟨rfl, (ze rfl rfl (zM el22 rfl rfl (by unfold zh at *; omega) (by unfold zh at *; omega) ⟨rfl, (zy rfl rfl sh3 rfl hg1 hl1 hc1 ?_)⟩))⟩)))⟩)))⟩))⟩))⟩))⟩))⟩))
   refine ze rfl rfl (zf yK rfl ⟨rfl, (zy rfl rfl qp rfl H.own2 (by exact H.lim2 (by unfold zh at *; omega)) rfl (ze rfl rfl (zd rfl ⟨rfl, (ze rfl rfl (zM el22 rfl rfl (by unfold zh at *; omega) (by unfold zh at *; omega) ⟨rfl, (zy rfl rfl sh3 rfl hg2 hl2 hc2 (ze rfl rfl (op_mul rfl rfl (by show zQ (1 * lb.getD q 0); unfold zQ; omega) ⟨rfl, (ze rfl rfl (zT rfl rfl (by show zQ (0 + 1 * lb.getD q 0); unfold zQ; omega) ⟨rfl, (ze rfl rfl (zd rfl ⟨rfl, (ze rfl rfl (zT rfl rfl (by show zQ (0 + 1 * lb.getD q 0 + 0); unfold zQ; omega) ⟨rfl, (ze rfl rfl (zm rfl ⟨rfl, (z2 (zc ?_))⟩))⟩))⟩))⟩))⟩)))⟩))⟩)))⟩)
   refine za rfl (zp rfl (za rfl (zd rfl (za rfl (zd rfl (za rfl (zT rfl rfl (by unfold zQ; (unfold zh at *; omega)) (za rfl (zd rfl (za rfl (op_rem rfl rfl (by unfold zh at *; omega) (za rfl (zM el22 rfl rfl (by unfold zh at *; omega) (by unfold zh at *; omega) (za rfl (zD H sz3 rfl rfl rfl rfl (lput_ints' (o := (lb.take q ++ List.replicate (1 + lb.length - q) 0)) (k := q) (by simp; omega) (by omega)) (by unfold zh at *; omega) (fun s58 H => ?_))))))))))))))))
   refine zb ?_
   have htd : (0 + 1 * lb.getD q 0 + 0).tdiv 1000000000 = 0 := by rw [Int.tdiv_eq_ediv_of_nonneg (by omega)]; omega
   have htm : (0 + 1 * lb.getD q 0 + 0).tmod 1000000000 = lb.getD q 0 := by rw [Int.tmod_eq_emod_of_nonneg (by omega)]; omega
   refine zv (za rfl (zd rfl (za rfl (op_quo rfl rfl (by decide) (by show zQ ((0 + 1 * lb.getD q 0 + 0).tdiv 1000000000); rw [htd]; unfold zQ; omega) (za rfl (zm rfl (zb (zP (zi (zv (za rfl (zd rfl (za rfl (zT rfl rfl (by unfold zQ; (unfold zh at *; omega)) (za rfl (zm rfl (zb ?_)))))))))))))))))
   refine zN (⟨lb.length - (q + 1), by omega, _, q + 1, yd ⟨rfl, rfl, rfl, rfl, rfl, by show Value.int .i64 ((0 + 1 * lb.getD q 0 + 0).tdiv 1000000000) = _; rw [htd], rfl, trivial⟩, ?_, by omega, rfl⟩)
   have hset : (lb.take q ++ List.replicate (1 + lb.length - q) 0).set q ((0 + 1 * lb.getD q 0 + 0).tmod 1000000000) = lb.take (q + 1) ++ List.replicate (1 + lb.length - (q + 1)) 0 := by
    rw [htm]
    obtain ⟨m, hm⟩ : ∃ m, 1 + lb.length - q = m + 1 := ⟨lb.length - q, by omega⟩
    have hm2 : 1 + lb.length - (q + 1) = m := by omega
    have hm3 : q - (lb.take q).length = 0 := by simp; omega
    rw [hm, hm2, List.replicate_succ, List.set_append_right _ _ (by simp; omega), hm3, List.set_cons_zero, List.take_succ_eq_append_getElem (show q < lb.length by omega), List.append_assoc]
    simp only [List.singleton_append, List.getD_eq_getElem?_getD, List.getElem?_eq_getElem (show q < lb.length by omega), Option.getD_some]
   rw [← hset]
   exact H
  refine zb (zx rfl (yn (zX (yh (ye (zi (zv ?_)))))))
  have hq2 : q = lb.length := by omega
  subst hq2
  refine za rfl (zp rfl (za rfl (zd rfl (za rfl (zf yK rfl (za rfl (zj qp rfl H.own2 rfl (za rfl (yf xO rfl rfl rfl (za rfl (zT rfl rfl (by unfold zQ; (unfold zh at *; omega)) (za rfl (zd rfl (za rfl (zM el22 rfl rfl (by unfold zh at *; omega) (by unfold zh at *; omega) (za rfl (zD H sz3 rfl rfl rfl rfl (lput_ints' (o := (lb.take lb.length ++ List.replicate (1 + lb.length - lb.length) 0)) (k := lb.length) (by simp) (by omega)) (by unfold zh at *; omega) (fun s68 H => ?_))))))))))))))))))
  refine zb (zP (zi (zv ?_)))
  have hset2 : (lb.take lb.length ++ List.replicate (1 + lb.length - lb.length) 0).set lb.length 0 = lb ++ [0] := by
   rw [List.take_length, show 1 + lb.length - lb.length = 1 by omega]
   simp
  rw [hset2] at H
  refine za rfl (zd rfl (za rfl (zT rfl rfl (by unfold zQ; (unfold zh at *; omega)) (za rfl (zm rfl (zb (zi (cw_unroll (zq (zc (za rfl (zd rfl (za rfl (zf yK rfl (za rfl (zj qp rfl H.own3 rfl (za rfl (yf xO rfl rfl rfl ?_))))))))))))))))))
  refine za rfl (yq rfl rfl (fun h => ?_) (fun h => ?_))
  ·refine zb (zE rfl (zA (zi (zq (zI ?_)))))
   exfalso
   omega
  refine zb (zx rfl (yn (zX (zX (ye (zi ?_))))))
  have hll : (lb ++ [(0 : Int)]).length = 1 + lb.length := by simp; omega
  have hsl : SlIn [(b17, .cells (z7 (lb ++ [0])) 3)] (.slice (some ⟨b17, 0, none⟩) (1 + lb.length) (2 * (1 + lb.length))) (lb ++ [0]) := by
   have := Own.slIn (l := lb ++ [0]) (len := 1 + lb.length) (.block b17 (2 * (1 + lb.length)) _ _ (by simp [z7]; omega) (by omega))
   exact this.2
  have hnl2 : qB (lb ++ [0]) (lb ++ [0]).length = lb.length := by
   rw [List.length_append, List.length_singleton, qB, if_pos (by simp), nlen_app _ (Nat.le_refl _), hnl]
  refine zc (za rfl (zf of56_0 rfl (za rfl (zj sh4 rfl H.own3 rfl (za rfl (zf of56_0 rfl (za rfl (zj sh4 rfl H.own2 rfl (za rfl (op_neqb un4 rfl rfl (za rfl (zp rfl (za rfl (zo rfl fc167 rfl ?_))))))))))))))
  obtain ⟨_, s9, hr, rfl, Hc⟩ := xE (l := lb ++ [0]) (a := some ⟨b17, 0, none⟩) (cap := 2 * (1 + lb.length)) (neg := !(n1 == n2)) hI H.fine (by have := hsl.sl H (by simp); rw [hll]; exact this) (by simp; omega) (by have := H.most; unfold zh at *; omega)
  rw [hll] at hr
  refine ⟨_, _, hr, ?_⟩
  clear hr
  have H := H.call0 Hc
  clear Hc
  rw [hll] at hnl2
  rw [hnl2]
  refine za rfl (x6 H qy rfl rfl rfl (by show List.all [_, _] Go.M.plainCell = true; simp only [List.all_cons, List.all_nil, nv_plain]; rfl) rfl (by unfold zh at *; omega) (fun s75 H => ?_))
  refine zb (zF (zt (xB qz rfl H.own1 rfl (⟨_, _, _, rfl, (H.sub (L' := [(b17, .cells (z7 (lb ++ [0])) 3)]) (by simp)).up (by omega), ?_⟩))))
  have := hsl.take (m := lb.length) (by simp)
  rwa [List.take_left' rfl] at this
 refine zb (zx rfl (yn (zX (zX (ye (zi ?_))))))
 exfalso
 omega
end Go.Proofs.YtdejleegamcioaaGreat
