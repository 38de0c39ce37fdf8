/- The reference of cleanings: the least one. -/
/- The reference of cleanings: what Least returns. -/
/- undo.Least for arguments that are not proper. -/
/- undo.Least, for proper arguments: what it returns. -/
/- Comparisons: what is compared with itself is the same. -/
/- Comparisons of splits: what they tell. -/
import Derived.Test.YtdejleegamcioaaGreatC21
namespace Go.Proofs.YtdejleegamcioaaGreat
open Go Go.M
theorem fb47 : yx Tryz.f47 (Tryz.f47.body.getD .skip) 3 = true := by kernel_rfl
theorem fc47 : yp Tryz.prog 47 = true := by kernel_rfl
end Go.Proofs.YtdejleegamcioaaGreat
namespace Go.M
section
variable {P : Program} {I : yh} {F : FF} {s : St} {Q : FF → St → Prop} {d : Option Tmp} {ty : TypeId} {pos : String} {af : Array Edge} {g : Option (Nat × Bool)} {W : List Nat} {s0 : St} {L : Hp'} {n : Nat}
theorem op_appendAny {ag : Array Operand} {ts : Array TypeId} {t t2 e e2 : TypeId} {tr : List TypeId} {x y : Operand} {sz by_ m b len cap : Nat} {z l c : List Value} (H : HL W s0 s ((b, .cells c e) :: L) n) (hs : xn P t = some (e, sz, by_, z)) (hu2 : P.underlying t2 = some (.slice e2))
  (ht : ts.toList = t :: t2 :: tr) (ha : ag.toList = [x, y]) (hx : zS F x = .slice (some ⟨b, 0, none⟩) len cap) (he : qW s sz (zS F y) m l) (hlen : len * sz = c.length) (hcap : cap / 2 = len) (hp : l.all plainCell = true) (hl : l.length = m * sz) (hb : (len + m) * (by_ + 1) ≤ 1073741824) (hr : s0.next + n < zp)
  (k : ∀ b' cap' s', HL W s0 s' ((b', .cells (c ++ l) e) :: L) (n + 1) → cap' / 2 = len + m → Q (upd F d (.slice (some ⟨b', 0, none⟩) (len + m) cap')) s') : OpW P I ⟨d, .call ⟨.builtin .append, ag, ts⟩, ty, pos, af, g⟩ F s Q := by
 by_cases hm : m = 0
 ·subst hm
  have hl0 : l = [] := List.eq_nil_of_length_eq_zero (by omega)
  subst hl0
  refine qZ H hs hu2 ht ha hx he (by omega) (by omega) (by omega) fun s' H' => ?_
  have := k b cap s' (by rw [List.append_nil]; exact H'.up (by omega)) (by omega)
  exact this
 ·exact op_append0 H hs hu2 ht ha hx he hlen (by omega) hp hl hb hr fun b' s' H' => k b' _ s' H' (by omega)
theorem HL.only {b : Nat} {o : MObj} (H : HL W s0 s ((b, o) :: L) n) {X : List Nat} (hX : ∀ p, p ∈ X → p < s.next ∧ p ≠ b) : HL [b] { s with prot := X ++ s.prot } { s with prot := X ++ s.prot } [(b, o)] 0 := by
 have hf := H.fine
 have ho := H.own (b, o) (by simp)
 refine ⟨rfl, rfl, hf.wfb, fun p hp => ?_, Nat.le_refl _, Nat.le_refl _, fun p hp => ?_, by simp, fun _ _ _ => rfl⟩
 ·rcases List.mem_append.mp hp with hp | hp
  ·exact (hX p hp).1
  ·exact hf.wfp p hp
 ·rw [List.mem_singleton] at hp
  subst hp
  refine ⟨ho.1, ho.2.1, ?_, .inr (by simp)⟩
  have hm := ho.2.2.1
  simp only [St.may, Bool.and_eq_true, Bool.not_eq_true', Bool.eq_false_iff, ne_eq, List.any_eq_true, not_exists, not_and] at hm ⊢
  refine ⟨hm.1, fun p hp he => ?_⟩
  rcases List.mem_append.mp hp with hp | hp
  ·exact (hX p hp).2 (Nat.eq_of_beq_eq_true he).symm
  ·exact hm.2 p hp he
end
end Go.M
namespace Go.Proofs.YtdejleegamcioaaGreat
open Go Go.M
theorem spl_plain (l : List Sp) : ((l.map Sp.cells).flatten).all Go.M.plainCell = true := by
 induction l with
 | nil => rfl
 | cons x l ih => rw [List.map_cons, List.flatten_cons, List.all_append, ih]; rfl
theorem spl_len (l : List Sp) : ((l.map Sp.cells).flatten).length = l.length * 10 := by
 induction l with
 | nil => rfl
 | cons x l ih => rw [List.map_cons, List.flatten_cons, List.length_append, ih, List.length_cons]; show 10 + _ = _; omega
theorem Sl.elemsP {s : St} {v : Value} {l : List Sp} (h : Sl s 62 10 v (l.map Sp.cells)) : qW s 10 v l.length ((l.map Sp.cells).flatten) := by
 have := Sl.elems h (by intro x hx; obtain ⟨y, _, rfl⟩ := List.mem_map.mp hx; rfl) (by decide)
 rwa [List.length_map] at this
theorem spsGP {b cap : Nat} {l : List Sp} (hcap : l.length ≤ cap / 2) : SlG [(b, .cells ((l.map Sp.cells).flatten) 62)] 62 10 (.slice (some ⟨b, 0, none⟩) l.length cap) (l.map Sp.cells) := by
 refine SlG.block b 0 cap ((l.map Sp.cells).flatten) (by simp) (by simp) (by simpa using hcap) fun k hk => ?_
 exact flat_get (by intro x hx; obtain ⟨y, _, rfl⟩ := List.mem_map.mp hx; rfl) hk
theorem Fine.fresh {s : St} (h : Fine s) : Fine { s with bar := s.next } := ⟨Nat.le_refl _, h.wfp⟩
def LevS (s : St) (js : List (Int × Int)) (bad : Int) (may : List Sp) (ks : List Int) (a1 a2 : Option Addr) (c1 c2 : Nat) : Prop :=
 Sl s 23 1 (.slice a1 ks.length c1) (ks.map dc) ∧ Sl s 3 1 (.slice a2 (ks.map (fun q => (bb js bad may q).1)).length c2) ((ks.map (fun q => (bb js bad may q).1)).map dc)
theorem LevS.heap {s s' : St} {js : List (Int × Int)} {bad : Int} {may : List Sp} {ks : List Int} {a1 a2 : Option Addr} {c1 c2 : Nat} (h : LevS s js bad may ks a1 a2 c1 c2) (hh : s'.heap = s.heap) (hn : s'.next = s.next) : LevS s' js bad may ks a1 a2 c1 c2 := ⟨h.1.heap hh hn, h.2.heap hh hn⟩
theorem LevS.kept {s s' : St} {js : List (Int × Int)} {bad : Int} {may : List Sp} {ks : List Int} {a1 a2 : Option Addr} {c1 c2 : Nat} {L : Hp'} {n : Nat} (h : LevS s js bad may ks a1 a2 c1 c2) (H : HL [] s s' L n) : LevS s' js bad may ks a1 a2 c1 c2 := ⟨h.1.kept H, h.2.kept H⟩
def ClC (I : yh) (js : List (Int × Int)) (bad : Int) (may : List Sp) (ks : List Int) (ma : Option Addr) (mcp : Nat) (a1 a2 : Option Addr) (c1 c2 : Nat) (f : Nat) : Prop :=
 ∀ (S : Int), 0 < S → S.toNat < f → S ∈ ks → (bb js bad may S).1 < 65536 → ∀ (s : St), Fine s → Sl s 62 10 (.slice ma may.length mcp) (may.map Sp.cells) → LevS s js bad may ks a1 a2 c1 c2 → s.next + 100 * (2 * (bb js bad may S).1.toNat + 1) ≤ zp →
  ∃ v' s', yJ Tryz.prog I 47 #[.int .i64 S, .slice ma may.length mcp, .agg ⟨[.slice a1 ks.length c1, .slice a2 (ks.map (fun q => (bb js bad may q).1)).length c2]⟩] s v' s' ∧ (∃ (D : Hp') (so : Slc), v' = so.v ∧ HL [] s s' D (100 * (2 * (bb js bad may S).1.toNat + 1)) ∧ SlG D 62 10 so.v ((tk js bad may f S).map Sp.cells))
set_option maxHeartbeats 4000000 in
set_option maxRecDepth 10000 in
theorem clean_step {I : yh} (hI : Plain I) {js : List (Int × Int)} {bad : Int} {may : List Sp} (hm : yZ may) (hml : may.length ≤ 15) {ks : List Int} (hkl : ks.length ≤ 65535) (hcl : Clo js bad may ks) {ma : Option Addr} {mcp : Nat} {a1 a2 : Option Addr} {c1 c2 : Nat} {f : Nat} (ih : ClC I js bad may ks ma mcp a1 a2 c1 c2 f) : ClC I js bad may ks ma mcp a1 a2 c1 c2 (f + 1) := by
 intro S hS hSf hSk hfin s hf hM hL hroom
 have H := hf.hl
 have hrg := yY (js := js) (bad := bad) (may := may) S
 refine yf 3 (hI 47 (by decide) (by decide)) Tryz.func47 rfl fb47 rfl ?_
 refine zf (za rfl (yI H rfl (by omega) (fun b5 s1 H => ?_)))
 refine za rfl (zh (zb (zf (za rfl (z7 xj rfl H.own0 rfl (za rfl (ze rfl (za rfl (zx rfl fc46 rfl ?_)))))))))
 obtain ⟨_, s9, hr, rfl, Hc⟩ := qR (x := S) hI H.fine (hL.kept H).1 (hL.kept H).2 (by omega) (by have := H.most; omega)
 refine ⟨_, _, hr, ?_⟩
 clear hr
 have H := H.call0 Hc
 clear Hc
 have ha0 : atP ks (ks.map (fun q => (bb js bad may q).1)) S = (bb js bad may S).1 := atP_map hSk
 rw [ha0]
 refine za rfl (zl rfl (zb (zy (zf (za rfl (zh (zb (zH (yu (fun k F s1 => ∃ (G : FF) (q : Nat), F = lay G [(0, .int .i64 S), (1, .slice ma may.length mcp), (5, ptr b5), (7, .int .i64 (bb js bad may S).1), (8, .int .i64 (q : Int))] ∧ HL [] s s1 [(b5, .cells [.slice a1 ks.length c1, .slice a2 (ks.map (fun q => (bb js bad may q).1)).length c2] 40)] (2 + 5 * q) ∧ (∀ m ∈ may.take q, m.w = S → 1 + (bb js bad may m.p).1 + (bb js bad may (zJ S m.p)).1 ≠ (bb js bad may S).1) ∧ q ≤ may.length ∧ k = may.length - q) ?_ may.length _ _ ?_)))))))))
 rotate_left
 ·exact ⟨_, 0, yb ⟨rfl, rfl, rfl, rfl, rfl, trivial⟩, H, (by intro m hmm; simp at hmm), by omega, by omega⟩
 rintro k F s1 ⟨G, q, rfl, H, hno, hq, rfl⟩
 refine zy (zf (za rfl (ze rfl (za rfl (zk rfl (za rfl (zZ xM rfl rfl rfl (za rfl (ye rfl rfl (fun h => ?_) (fun h => ?_))))))))))
 ·refine za rfl (zi rfl (za rfl (ze rfl (za rfl (yy rfl rfl (fun h => ?_) (fun h => ?_))))))
  ·refine za rfl (zM rfl rfl (zb (zq rfl (zD (zj (zy (zH (zf (za rfl (zk rfl (za rfl (ze rfl ?_))))))))))))
   obtain ⟨bm, ofm, cm0, hem, hgm0, hbm, hcm0⟩ := (hM.kept H).atS (i := (q : Int)) (k := q) rfl (by omega)
   cases hem
   refine za rfl (zA x9 rfl rfl (by omega) (by omega) (za rfl (z7 sh62 rfl hgm0 hcm0 (za rfl (yi H zf62 (by omega) (fun b9 s2 H => ?_))))))
   refine za rfl (yg (vs := [.int _ _, .int _ _, .bool _, .slice _ _ _, .bool _, .slice _ _ _, .bool _, .slice _ _ _, .bool _, .slice _ _ _]) H sz62 rfl rfl rfl rfl rfl (by omega) (fun s3 H => ?_))
   refine zb (zy (zf (za rfl (zg xi rfl (za rfl (zn ys rfl H.own0 rfl (za rfl (ze rfl (za rfl (yG rfl rfl (fun h => ?_) (fun h => ?_)))))))))))
   ·refine zb (zq rfl (yc (zQ (zY (zj (zC (za rfl (ze rfl (za rfl (zW rfl rfl (by unfold zV; omega) (za rfl (zl rfl (zb (zI ?_))))))))))))))
    refine ⟨may.length - (q + 1), by omega, _, q + 1, yb ⟨rfl, rfl, rfl, rfl, rfl, trivial⟩, H.drop0.up (by omega), ?_, by omega, rfl⟩
    intro m hmm hmw
    rcases yH (show q < may.length by omega) hmm with hmm | hmm
    ·exact hno m hmm hmw
    ·subst hmm; exact absurd hmw h
   refine zb (zw rfl (zD (zj ?_)))
   have hxS : (may.getD q default).w = S := by simpa using h
   obtain ⟨hsp, hpb⟩ := hm (may.getD q default) (zP (by omega))
   obtain ⟨hf1, hf2, hf3, hf4, hf5, hf6⟩ := yR hsp hpb
   have hpos : 0 < (bb js bad may S).1 := by omega
   have hnd : yj S bad 0 js = true := by
    cases hn : yj S bad 0 js with
    | true => rfl
    | false => have e := bb_num (js := js) (bad := bad) hm hS; rw [if_neg (by rw [hn]; simp)] at e; omega
   obtain ⟨hp1, hp2⟩ := hcl (may.getD q default) (zP (by omega)) (by rw [hxS]; exact hSk) (by rw [hxS]; exact hnd)
   have hr1 := yY (js := js) (bad := bad) (may := may) (may.getD q default).p
   have hr2 := yY (js := js) (bad := bad) (may := may) (zJ (may.getD q default).w (may.getD q default).p)
   refine zf (za rfl (z7 xj rfl H.own1 rfl (za rfl (zg y8 rfl (za rfl (zn ys rfl H.own0 rfl (za rfl (zx rfl fc46 rfl ?_))))))))
   obtain ⟨_, s9, hr, rfl, Hc⟩ := qR (x := (may.getD q default).p) hI H.fine (hL.kept H).1 (hL.kept H).2 (by omega) (by have := H.most; omega)
   refine ⟨_, _, hr, ?_⟩
   clear hr
   have H := H.call0 Hc
   clear Hc
   have ha1 : atP ks (ks.map (fun q => (bb js bad may q).1)) (may.getD q default).p = (bb js bad may (may.getD q default).p).1 := atP_map hp1
   rw [ha1]
   refine za rfl (zl rfl (zb (yn [⟨0, 0, .light, [1]⟩, ⟨1, 0, .light, [0]⟩, ⟨2, 2, .whole, [0]⟩, ⟨3, 7, .whole, []⟩, ⟨4, 15, .light, []⟩] (by kernel_rfl) (by kernel_rfl) (yr rfl rfl xj rfl H.own1 (by exact H.lim1 (by omega)) rfl (yr rfl rfl sh62 rfl H.own0 (by exact H.lim0 (by omega)) rfl (zX rfl rfl (zx rfl fc36 rfl ?_)))))))
   obtain ⟨_, s9, hr, rfl, Hc⟩ := rest_ok (x := (may.getD q default)) hI (Fine.narrow (X := [b5]) H.fine (by intro p hp; simp only [List.mem_cons, List.not_mem_nil, or_false] at hp; subst hp; exact H.lt1)) (by have hmo := H.most; (try simp only at hmo); show _ + _ ≤ _; (try simp only); omega)
   refine ⟨_, _, hr, ?_⟩
   clear hr
   have H := H.call0 (HL.wider H.fine (Nat.le_refl _) (fun _ h => List.mem_append_right _ h) Hc)
   clear Hc
   refine zX rfl rfl (zx rfl fc46 rfl ?_)
   obtain ⟨_, s9, hr, rfl, Hc⟩ := qR (x := (zJ (may.getD q default).w (may.getD q default).p)) hI H.fine (hL.kept H).1 (hL.kept H).2 (by omega) (by have hmo := H.most; (try simp only at hmo); show _ + _ ≤ _; (try simp only); omega)
   refine ⟨_, _, hr, ?_⟩
   clear hr
   have H := H.call0 (HL.wider H.fine (Nat.le_refl _) (fun _ h => h) Hc)
   clear Hc
   have ha2 : atP ks (ks.map (fun q => (bb js bad may q).1)) (zJ (may.getD q default).w (may.getD q default).p) = (bb js bad may (zJ (may.getD q default).w (may.getD q default).p)).1 := atP_map hp2
   rw [ha2]
   refine zd rfl rfl (zl rfl ⟨rfl, (zR (zf (za rfl (ze rfl (za rfl (zW rfl rfl (by unfold zV; omega) (za rfl (ze rfl (za rfl (zW rfl rfl (by unfold zV; omega) (za rfl (ze rfl (za rfl (yD rfl rfl (fun h => ?_) (fun h => ?_)))))))))))))))⟩)
   ·refine zb (zq rfl ?_)
    have hsum : 1 + (bb js bad may (may.getD q default).p).1 + (bb js bad may (zJ (may.getD q default).w (may.getD q default).p)).1 = (bb js bad may S).1 := h
    have hfd : (may.getD q default) = (bb js bad may S).2 := bb_found hm hS hpos hfin (by omega) hxS (by rw [hxS] at hsum; exact hsum) hno
    refine yn [⟨0, 0, .light, [3, 5, 8, 11]⟩, ⟨2, 0, .light, [0, 5, 8, 11]⟩, ⟨3, 4, .light, [0, 5, 8, 11]⟩, ⟨4, 0, .light, [0, 3, 5, 8, 11]⟩, ⟨5, 0, .light, [0, 3, 8, 11]⟩, ⟨8, 0, .light, [0, 3, 5, 11]⟩, ⟨10, 0, .light, [0, 3, 5, 8, 11]⟩, ⟨11, 0, .light, [0, 3, 5, 8]⟩, ⟨1, 1, .fresh, [3, 5, 8, 11]⟩, ⟨6, 60, .fresh, [0, 8, 11]⟩, ⟨7, 127, .whole, [8, 11]⟩, ⟨9, 511, .whole, [11]⟩, ⟨12, 4095, .whole, []⟩, ⟨13, 8191, .whole, []⟩, ⟨14, 16383, .light, []⟩] (by kernel_rfl) (by kernel_rfl) (yr rfl rfl sh62 rfl H.own0 (by exact H.lim0 (by omega)) rfl (zd rfl rfl (zg y8 rfl ⟨rfl, (zG rfl rfl ys rfl H.own0 (by exact H.lim0 (by omega)) rfl (zd rfl rfl (zk rfl ⟨rfl, (yr rfl rfl xj rfl H.own1 (by exact H.lim1 (by omega)) rfl (yr rfl rfl sh62 rfl H.own0 (by exact H.lim0 (by omega)) rfl (zd rfl rfl (zk rfl ⟨rfl, (yr rfl rfl xj rfl H.own1 (by exact H.lim1 (by omega)) rfl ?_)⟩))))⟩)))⟩)))
    have Hn := (Fine.fresh H.fine).hl
    refine y3 rfl rfl (z8 (c := [.int _ _, .int _ _, .bool _, .slice _ _ _, .bool _, .slice _ _ _, .bool _, .slice _ _ _, .bool _, .slice _ _ _]) Hn sl25 rfl rfl (by have hmo := H.most; (try simp only at hmo); show _ + _ < _; (try simp only); omega) (fun b48 s48 Hc => ?_))
    have H := H.call (HL.wider H.fine H.fine.wfb (fun _ h => h) Hc)
    clear Hc
    simp only [List.cons_append, List.nil_append] at H
    refine y3 rfl rfl (zx rfl fc47 rfl ?_)
    obtain ⟨_, s9, hr, D1, ⟨so1a, so1n, so1c⟩, rfl, Hc, h1G⟩ := ih (may.getD q default).p hf1 (by omega) hp1 (by omega) _ (Fine.fresh H.fine) ((hM.kept H).heap rfl rfl) ((hL.kept H).heap rfl rfl) (by have hmo := H.most; (try simp only at hmo); show _ + _ ≤ _; (try simp only); omega)
    refine ⟨_, _, hr, ?_⟩
    clear hr
    have H := H.callE (HL.wider H.fine H.fine.wfb (fun _ h => h) Hc)
    clear Hc
    try simp only [List.cons_append, List.nil_append, List.append_assoc] at H
    have hs1 := h1G.slc
    rw [List.length_map] at hs1
    simp only at hs1
    subst hs1
    have ht1 := tk_len (js := js) (bad := bad) hm f (may.getD q default).p hf1 (by omega) (by omega)
    have hd := H.dist
    simp only [List.pairwise_cons, List.mem_cons, forall_eq_or_imp, ne_eq] at hd
    have Ho := HL.only (X := [b9, b5]) H (by intro p hp; simp only [List.mem_cons, List.not_mem_nil, or_false] at hp; rcases hp with rfl | rfl <;> first | exact ⟨H.lt1, fun e => hd.1.1 e.symm⟩ | exact ⟨H.lt2, fun e => hd.1.2.1 e.symm⟩)
    have he1 := (Sl.prot (X := [b9, b5]) (h1G.sl H (by intro p hp; (try simp only [List.mem_cons, List.mem_append, List.not_mem_nil, or_false] at hp ⊢); first | exact hp | simp only [hp, true_or, or_true]))).elemsP
    refine zX rfl rfl (op_appendAny Ho sl25 xM rfl rfl rfl he1 (by rfl) (by decide) (spl_plain _) (spl_len _) (by omega) (by have hmo := H.most; (try simp only at hmo); show _ + _ < _; (try simp only); omega) (fun b54 cap54 s54 Hc hcap54 => ?_))
    have H := HL.callW (A := [_]) H (HL.wider H.fine (Nat.le_refl _) (fun _ h => List.mem_append_right _ h) Hc) (by intro b hb; rw [List.mem_singleton] at hb; subst hb; exact ⟨_, List.mem_singleton.mpr rfl⟩) (by intro p hp; rw [List.mem_singleton] at hp; subst hp; simp)
    clear Hc he1
    simp only [List.cons_append, List.nil_append] at H
    refine zX rfl rfl (zx rfl fc36 rfl ?_)
    obtain ⟨_, s9, hr, rfl, Hc⟩ := rest_ok (x := (may.getD q default)) hI (Fine.narrow (X := [b5]) H.fine (by intro p hp; simp only [List.mem_cons, List.not_mem_nil, or_false] at hp; subst hp; exact H.lt2)) (by have hmo := H.most; (try simp only at hmo); show _ + _ ≤ _; (try simp only); omega)
    refine ⟨_, _, hr, ?_⟩
    clear hr
    have H := H.call0 (HL.wider H.fine (Nat.le_refl _) (fun _ h => List.mem_append_right _ h) Hc)
    clear Hc
    refine zX rfl rfl (zx rfl fc47 rfl ?_)
    obtain ⟨_, s9, hr, D2, ⟨so2a, so2n, so2c⟩, rfl, Hc, h2G⟩ := ih (zJ (may.getD q default).w (may.getD q default).p) hf3 (by omega) hp2 (by omega) _ H.fine (hM.kept H) (hL.kept H) (by have hmo := H.most; (try simp only at hmo); show _ + _ ≤ _; (try simp only); omega)
    refine ⟨_, _, hr, ?_⟩
    clear hr
    have H := H.callE (HL.wider H.fine (Nat.le_refl _) (fun _ h => h) Hc)
    clear Hc
    try simp only [List.cons_append, List.nil_append, List.append_assoc] at H
    have hs2 := h2G.slc
    rw [List.length_map] at hs2
    simp only at hs2
    subst hs2
    have ht2 := tk_len (js := js) (bad := bad) hm f (zJ (may.getD q default).w (may.getD q default).p) hf3 (by omega) (by omega)
    have he2 := (h2G.sl H (by intro p hp; (try simp only [List.mem_cons, List.mem_append, List.not_mem_nil, or_false] at hp ⊢); first | exact hp | simp only [hp, true_or, or_true])).elemsP
    have H00 := H
    refine zX rfl rfl (op_appendAny H sl25 xM rfl rfl rfl he2 (by simp only [List.length_cons, List.length_append, spl_len, Sp.cells, List.length_nil]; omega) hcap54 (spl_plain _) (spl_len _) (by omega) (by omega) (fun b60 cap60 s60 H hcap60 => ?_))
    have H := HL.back H00 H
    clear H00 he2
    refine zd rfl rfl (zO rfl ⟨rfl, (zR (zr (zu (zo (zL (zu (zo (zm (zN ?_)))))))))⟩)
    have htk : tk js bad may (f + 1) S = (may.getD q default) :: (tk js bad may f (may.getD q default).p ++ tk js bad may f (zJ (may.getD q default).w (may.getD q default).p)) := by rw [tk, if_pos hpos, ← hfd, hxS]
    refine ⟨[(b60, .cells ((tk js bad may (f + 1) S).map Sp.cells).flatten 62)], ⟨some ⟨b60, 0, none⟩, (tk js bad may (f + 1) S).length, cap60⟩, ?_, ?_, spsGP (by rw [htk]; simp only [List.length_cons, List.length_append]; omega)⟩
    ·rw [htk]
     simp only [Slc.v, List.length_cons, List.length_append]
     refine congrArg (fun z => Value.slice _ z cap60) ?_
     omega
    ·rw [htk, List.map_cons, List.map_append, List.flatten_cons, List.flatten_append, ← List.append_assoc]
     exact (H.sub (List.Sublist.cons_cons _ (List.nil_sublist _))).up (by omega)
   refine zb (zw rfl (zD (zK (zj (zC (za rfl (ze rfl (za rfl (zW rfl rfl (by unfold zV; omega) (za rfl (zl rfl (zb (zI (⟨may.length - (q + 1), by omega, _, q + 1, yb ⟨rfl, rfl, rfl, rfl, rfl, trivial⟩, H.drop0.up (by omega), ?_, by omega, rfl⟩))))))))))))))
   intro m hmm hmw
   rcases yH (show q < may.length by omega) hmm with hmm | hmm
   ·exact hno m hmm hmw
   ·subst hmm; rw [hxS] at h; exact h
  refine za rfl (zM rfl rfl (zb (zw rfl (yc (zQ (ya (zY (zj (zf (za rfl (zh (zb (zr ?_)))))))))))))
  refine zm (zN ?_)
  have htk : tk js bad may (f + 1) S = [] := by
   rw [tk, if_neg]
   intro hpos
   first
    | omega
    | exact bb_finds (js := js) (bad := bad) hm hS hpos hfin (by rw [List.take_of_length_le (by omega)] at hno; exact hno)
  refine ⟨[], ⟨none, 0, 0⟩, rfl, (H.sub (List.nil_sublist _)).up (by omega), ?_⟩
  rw [htk]
  exact .nil 0 rfl rfl
 refine za rfl (zi rfl (zc rfl (zc rfl (za rfl (z6 rfl (zb (zw rfl (yc (zQ (ya (zY (zj (zf ?_)))))))))))))
 refine za rfl (zh (zb (zr (zm (zN ?_)))))
 have htk : tk js bad may (f + 1) S = [] := by
  rw [tk, if_neg]
  intro hpos
  first
   | omega
   | exact bb_finds (js := js) (bad := bad) hm hS hpos hfin (by rw [List.take_of_length_le (by omega)] at hno; exact hno)
 refine ⟨[], ⟨none, 0, 0⟩, rfl, (H.sub (List.nil_sublist _)).up (by omega), ?_⟩
 rw [htk]
 exact .nil 0 rfl rfl
theorem cleaning_ok {I : yh} (hI : Plain I) {js : List (Int × Int)} {bad : Int} {may : List Sp} (hm : yZ may) (hml : may.length ≤ 15) {ks : List Int} (hkl : ks.length ≤ 65535) (hcl : Clo js bad may ks) {ma : Option Addr} {mcp : Nat} {a1 a2 : Option Addr} {c1 c2 : Nat} : ∀ f, ClC I js bad may ks ma mcp a1 a2 c1 c2 f
 | 0 => fun S _ h => by omega
 | f + 1 => clean_step hI hm hml hkl hcl (cleaning_ok hI hm hml hkl hcl f)
end Go.Proofs.YtdejleegamcioaaGreat
namespace Go.Proofs.YtdejleegamcioaaGreat
open Go Go.M
theorem bf40 : buildF Tryz.prog 40 = some ([.slice none 0 0, .slice none 0 0], [(0, 1), (1, 1)]) := by kernel_rfl
theorem fb13 : yx Tryz.f13 (Tryz.f13.body.getD .skip) 4 = true := by kernel_rfl
theorem fc19 : yp Tryz.prog 19 = true := by kernel_rfl
theorem fc45 : yp Tryz.prog 45 = true := by kernel_rfl
def LPost (js : List (Int × Int)) (bad : Int) (may : List Sp) (w : Int) (s : St) (N : Nat) (v' : Value) (s' : St) : Prop := ∃ (o : LOut) (D : Hp') (sx p1 p2 : Slc), LIs js bad may w o ∧ v' = .tuple ⟨[sx.v, .int .i64 o.n, .agg ⟨[p1.v, p2.v]⟩, .int .i64 o.e]⟩ ∧ HL [] s s' D N ∧ SlG D 62 10 sx.v (o.x.map Sp.cells) ∧ SlG D 23 1 p1.v (o.ks.map dc) ∧ SlG D 3 1 p2.v (o.ns.map dc)
theorem LPost.fail {js : List (Int × Int)} {bad : Int} {may : List Sp} {w : Int} {s s' : St} {N : Nat} (h : xm w js bad may ≠ 0) (H : HL [] s s' [] N) : LPost js bad may w s N (.tuple ⟨[.slice none 0 0, .int .i64 0, .agg ⟨[.slice none 0 0, .slice none 0 0]⟩, .int .i64 (xm w js bad may)]⟩) s' :=
 ⟨⟨[], 0, [], [], xm w js bad may⟩, [], ⟨none, 0, 0⟩, ⟨none, 0, 0⟩, ⟨none, 0, 0⟩, .inl ⟨h, rfl⟩, rfl, H, .nil 0 rfl rfl, .nil 0 rfl rfl, .nil 0 rfl rfl⟩
theorem LPost.none {js : List (Int × Int)} {bad : Int} {may : List Sp} {w : Int} {s s' : St} {N : Nat} (h : xm w js bad may = 0) (h2 : (bb js bad may w).1 = 65536) (H : HL [] s s' [] N) : LPost js bad may w s N (.tuple ⟨[.slice none 0 0, .int .i64 0, .agg ⟨[.slice none 0 0, .slice none 0 0]⟩, .int .i64 6]⟩) s' :=
 ⟨⟨[], 0, [], [], 6⟩, [], ⟨Option.none, 0, 0⟩, ⟨Option.none, 0, 0⟩, ⟨Option.none, 0, 0⟩, .inr (.inl ⟨h, h2, rfl⟩), rfl, H, .nil 0 rfl rfl, .nil 0 rfl rfl, .nil 0 rfl rfl⟩
set_option maxHeartbeats 4000000 in
set_option maxRecDepth 10000 in
theorem leastR_ok {I : yh} (hI : Plain I) {s : St} (hf : Fine s) {w bad : Int} {vj vm : Value} {js : List (Int × Int)} {may : List Sp} (hJ : Sl s 30 2 vj (js.map jc)) (hM : Sl s 62 10 vm (may.map Sp.cells)) (hin : ∀ x ∈ may, x.p < 9223372036854775808) (hjl : js.length ≤ 4000) (hml : may.length ≤ 15) (hroom : s.next + 1031050000000 ≤ zp) :
  ∃ v' s', yJ Tryz.prog I 13 #[.int .i64 w, vj, .int .i64 bad, vm] s v' s' ∧ LPost js bad may w s 1031050000000 v' s' := by
 have H := hf.hl
 obtain ⟨ja, jn, jcp, rfl, hjn⟩ := hJ.isSlice
 rw [List.length_map] at hjn
 subst hjn
 obtain ⟨ma, mn, mcp, rfl, hmn⟩ := hM.isSlice
 rw [List.length_map] at hmn
 subst hmn
 refine yf 4 (hI 13 (by decide) (by decide)) Tryz.func13 rfl fb13 rfl ?_
 refine zf (za rfl (zh (za rfl (zh (za rfl (yi H zf40 (by omega) (fun b10 s1 H => ?_)))))))
 refine za rfl (zh (zb (zf (za rfl (ze rfl (za rfl (zk rfl (za rfl (ze rfl (za rfl (zk rfl (za rfl (zx rfl fc45 rfl ?_)))))))))))))
 obtain ⟨_, s9, hr, rfl, Hc⟩ := error_ok (w := w) (bad := bad) hI H.fine (hJ.kept H) (hM.kept H) hin (by omega) hjl (by have := H.most; omega)
 refine ⟨_, _, hr, ?_⟩
 clear hr
 have H := H.call0 Hc
 clear Hc
 refine za rfl (zl rfl (zb (zy (zf (za rfl (ze rfl (za rfl (yG rfl rfl (fun h => ?_) (fun h => ?_)))))))))
 ·refine zb (zq rfl (zf (za rfl (y5 (c := [.slice _ _ _, .slice _ _ _]) bf40 rfl (za rfl (ze rfl (za rfl (zh (za rfl (zh (za rfl (yg (vs := [.slice _ _ _, .slice _ _ _]) H sz40 rfl rfl rfl rfl rfl (by omega) (fun s2 H => ?_)))))))))))))
  refine za rfl (zl rfl (zb (zr (zo (zm (end_ttct rfl rfl xj rfl H.own0 rfl rfl ?_))))))
  exact LPost.fail h ((H.sub (List.nil_sublist _)).up (by omega))
 refine zb (zw rfl (zD (zj ?_)))
 have herr : xm w js bad may = 0 := by simpa using h
 obtain ⟨_, hjl2, hw0, hw1, hb0, hb1, hsp, hjb⟩ := err_zero herr
 have hm : yZ may := fun x hx => ⟨hsp x hx, hin x hx⟩
 have hj : ∀ j ∈ js, kf j := fun j hj => (joinsB_all hjb j hj).1
 have hrg := yY (js := js) (bad := bad) (may := may) w
 refine zf (za rfl (ze rfl (za rfl (zk rfl (za rfl (ze rfl (za rfl (zk rfl (za rfl (zx rfl fc19 rfl ?_))))))))))
 obtain ⟨_, s9, hr, Dn, ⟨p1a, p1n, p1c⟩, ⟨p2a, p2n, p2c⟩, ks, rfl, Hc, hinc, hks, hG1, hG2⟩ := numbers_ok (w := w) (bad := bad) hI H.fine (hJ.kept H) (hM.kept H) hj hjl2 hm hml hw0 hw1 (by have := H.most; omega)
 refine ⟨_, _, hr, ?_⟩
 clear hr
 have H := H.callE Hc
 clear Hc
 try simp only [List.cons_append, List.nil_append, List.append_assoc] at H
 have hs1 := hG1.slc
 rw [List.length_map] at hs1
 simp only at hs1
 subst hs1
 have hs2 := hG2.slc
 rw [List.length_map] at hs2
 simp only at hs2
 subst hs2
 have hkl := rch_len hm hw0 hw1 hinc (fun x hx => (hks x).mp hx)
 have hwk : w ∈ ks := (hks w).mpr .self
 simp only [Slc.v]
 refine za rfl (yi H zf40 (by omega) (fun b13 s3 H => ?_))
 refine za rfl (yg (vs := [.slice _ _ _, .slice _ _ _]) H sz40 rfl rfl rfl rfl rfl (by omega) (fun s4 H => ?_))
 refine zb (zf (za rfl (z7 xj rfl H.own0 rfl (za rfl (ze rfl (za rfl (zx rfl fc46 rfl ?_)))))))
 obtain ⟨_, s9, hr, rfl, Hc⟩ := qR (x := w) hI H.fine (hG1.sl H (by intro p hp; (try simp only [List.mem_cons, List.mem_append, List.not_mem_nil, or_false] at hp ⊢); first | exact hp | simp only [hp, true_or, or_true])) (hG2.sl H (by intro p hp; (try simp only [List.mem_cons, List.mem_append, List.not_mem_nil, or_false] at hp ⊢); first | exact hp | simp only [hp, true_or, or_true])) (by omega) (by have := H.most; omega)
 refine ⟨_, _, hr, ?_⟩
 clear hr
 have H := H.call0 Hc
 clear Hc
 have ha0 : atP ks (ks.map (fun q => (bb js bad may q).1)) w = (bb js bad may w).1 := atP_map hwk
 rw [ha0]
 refine za rfl (zl rfl (zb (zy (zf (za rfl (ze rfl (za rfl (yD rfl rfl (fun h => ?_) (fun h => ?_)))))))))
 ·refine zb (zq rfl (zf (za rfl (y5 (c := [.slice _ _ _, .slice _ _ _]) bf40 rfl (za rfl (zh (za rfl (zh (za rfl (qb (vs := [.slice _ _ _, .slice _ _ _]) H sz40 rfl rfl rfl rfl rfl (by omega) (fun s5 H => ?_)))))))))))
  refine za rfl (zh (zb (zr (zo (zm (end_ttct rfl rfl xj rfl H.own1 rfl rfl ?_))))))
  exact LPost.none herr h ((H.sub (List.nil_sublist _)).up (by omega))
 refine zb (zw rfl (zD (zj (yn [⟨0, 0, .light, [2, 5]⟩, ⟨1, 0, .light, [2, 5]⟩, ⟨2, 0, .light, [5]⟩, ⟨4, 0, .light, [2, 5]⟩, ⟨5, 0, .light, [2]⟩, ⟨3, 7, .whole, [5]⟩, ⟨6, 15, .light, [5]⟩, ⟨7, 95, .light, [5]⟩, ⟨8, 255, .whole, []⟩, ⟨9, 511, .light, []⟩] (by kernel_rfl) (by kernel_rfl) (zd rfl rfl (ze rfl ⟨rfl, (zd rfl rfl (zk rfl ⟨rfl, (yr rfl rfl xj rfl H.own0 (by exact H.lim0 (by omega)) rfl (zd rfl rfl (ze rfl ⟨rfl, (yr rfl rfl xj rfl H.own0 (by exact H.lim0 (by omega)) rfl (zX rfl rfl (zx rfl fc47 rfl ?_)))⟩)))⟩))⟩))))))
 have hclo : Clo js bad may ks := fun m hmm hmw hn => ⟨(hks _).mpr (.part ((hks _).mp hmw) hn hmm rfl), (hks _).mpr (.rest ((hks _).mp hmw) hn hmm rfl)⟩
 obtain ⟨_, s9, hr, D3, ⟨so3a, so3n, so3c⟩, rfl, Hc, h3G⟩ := cleaning_ok hI hm hml hkl hclo (w.toNat + 1) w hw0 (by omega) hwk (by omega) _ (Fine.narrow (X := [b13]) H.fine (by intro p hp; rw [List.mem_singleton] at hp; subst hp; exact H.lt0)) (Sl.prot (X := [b13]) (hM.kept H)) ⟨Sl.prot (X := [b13]) (hG1.sl H (by intro p hp; (try simp only [List.mem_cons, List.mem_append, List.not_mem_nil, or_false] at hp ⊢); first | exact hp | simp only [hp, true_or, or_true])), Sl.prot (X := [b13]) (hG2.sl H (by intro p hp; (try simp only [List.mem_cons, List.mem_append, List.not_mem_nil, or_false] at hp ⊢); first | exact hp | simp only [hp, true_or, or_true]))⟩ (by have hmo := H.most; (try simp only at hmo); show _ + _ ≤ _; (try simp only); omega)
 refine ⟨_, _, hr, ?_⟩
 clear hr
 have H := H.callE (HL.wider H.fine (Nat.le_refl _) (fun _ h => List.mem_append_right _ h) Hc)
 clear Hc
 try simp only [List.cons_append, List.nil_append, List.append_assoc] at H
 refine zd rfl rfl (zO rfl ⟨rfl, (zd rfl rfl (zl rfl ⟨rfl, (dr_store1 (vs := [.slice _ _ _, .slice _ _ _]) (fr := []) H rfl rfl sz40 rfl rfl rfl rfl rfl rfl (by simp) (by omega) (fun s97 H => ?_))⟩))⟩)
 refine zd rfl rfl (zh ⟨rfl, (zR (zr (zm (end_ttct rfl rfl xj rfl H.own1 rfl rfl (⟨⟨tk js bad may (w.toNat + 1) w, (bb js bad may w).1, ks, ks.map (fun q => (bb js bad may q).1), 0⟩, _, ⟨so3a, so3n, so3c⟩, ⟨p1a, ks.length, p1c⟩, ⟨p2a, _, p2c⟩, .inr (.inr ⟨herr, by omega, hinc, hks, rfl, rfl, rfl, rfl⟩), rfl, H.up (by omega), h3G.mono ?_, hG1.mono ?_, hG2.mono ?_⟩)))))⟩)
 ·intro p hp
  simp only [List.mem_cons, List.mem_append, hp, true_or, or_true]
 ·intro p hp
  simp only [List.mem_cons, List.mem_append, hp, true_or, or_true]
 ·intro p hp
  simp only [List.mem_cons, List.mem_append, hp, true_or, or_true]
end Go.Proofs.YtdejleegamcioaaGreat
namespace Go.Proofs.YtdejleegamcioaaGreat
open Go Go.M
end Go.Proofs.YtdejleegamcioaaGreat
namespace Go.Proofs.YtdejleegamcioaaGreat
open Go Go.M
def LeastG (I : yh) : Prop := ∀ (s : St) (w bad : Int) (vj vm : Value) (js : List (Int × Int)) (may : List Sp), Fine s → Sl s 30 2 vj (js.map jc) → Sl s 62 10 vm (may.map Sp.cells) → (∀ x ∈ may, x.p < 9223372036854775808) → may.length ≤ 15 → s.next + 20000000000 ≤ zp →
 ∃ v' s', yJ Tryz.prog I 12 #[.int .i64 w, vj, .int .i64 bad, vm] s v' s' ∧ LPost js bad may w s 20000000000 v' s'
end Go.Proofs.YtdejleegamcioaaGreat
namespace Go.Proofs.YtdejleegamcioaaGreat
open Go Go.M
theorem fb151 : yx Tryz.f151 (Tryz.f151.body.getD .skip) 2 = true := by kernel_rfl
theorem fb89 : yx Tryz.f89 (Tryz.f89.body.getD .skip) 2 = true := by kernel_rfl
theorem fc151 : yp Tryz.prog 151 = true := by kernel_rfl
theorem of58_0 : offF Tryz.prog 58 0 = some 0 := by kernel_rfl
theorem of58_1 : offF Tryz.prog 58 1 = some 2 := by kernel_rfl
theorem fb48 : yx Tryz.f48 (Tryz.f48.body.getD .skip) 2 = true := by kernel_rfl
theorem fc89 : yp Tryz.prog 89 = true := by kernel_rfl
theorem of60_0 : offF Tryz.prog 60 0 = some 0 := by kernel_rfl
theorem of60_1 : offF Tryz.prog 60 1 = some 4 := by kernel_rfl
theorem fc48 : yp Tryz.prog 48 = true := by kernel_rfl
theorem fb16 : yx Tryz.f16 (Tryz.f16.body.getD .skip) 1 = true := by kernel_rfl
set_option maxHeartbeats 4000000 in
set_option maxRecDepth 10000 in
theorem plain_ok {I : yh} (hI : Plain I) {s : St} (hf : Fine s) {a1 a2 : Option Addr} {n1 n2 c1 c2 : Nat} (hroom : s.next + 2 ≤ zp) :
  ∃ v' s', yJ Tryz.prog I 16 #[.agg ⟨[.slice a1 n1 c1, .slice a2 n2 c2]⟩] s v' s' ∧ (v' = .agg ⟨[.slice a1 n1 c1, .slice a2 n2 c2]⟩ ∧ HL [] s s' [] 2) := by
 have H := hf.hl
 refine yf 1 (hI 16 (by decide) (by decide)) Tryz.func16 rfl fb16 rfl ?_
 refine zf (za rfl (yI H rfl (by omega) (fun b1 s1 H => ?_)))
 refine za rfl (yi H zf40 (by omega) (fun b2 s2 H => ?_))
 refine zb (zf (za rfl (zg of36_0 rfl (za rfl (zn x5 rfl H.own1 rfl (za rfl (zg of36_1 rfl (za rfl (zn yS rfl H.own1 rfl (za rfl (y5 (c := [.slice _ _ _, .slice _ _ _]) bf40 rfl (za rfl (yg (vs := [.slice _ _ _, .slice _ _ _]) H sz40 rfl rfl rfl rfl rfl (by omega) (fun s3 H => ?_))))))))))))))
 refine zb (zr (zm (yW xj rfl H.own0 rfl ?_)))
 exact ⟨rfl, H.sub (List.nil_sublist _)⟩
end Go.Proofs.YtdejleegamcioaaGreat
namespace Go.Proofs.YtdejleegamcioaaGreat
open Go Go.M
theorem fb202 : yx Tryz.f202 (Tryz.f202.body.getD .skip) 2 = true := by kernel_rfl
theorem fb154 : yx Tryz.f154 (Tryz.f154.body.getD .skip) 2 = true := by kernel_rfl
theorem fc202 : yp Tryz.prog 202 = true := by kernel_rfl
theorem list_step {l1 l2 : List Int} {i : Nat} (h1 : i < l1.length) (h2 : i < l2.length) (he : l1.take i = l2.take i) (hx : l1.getD i 0 = l2.getD i 0) : l1.take (i + 1) = l2.take (i + 1) := by
 rw [List.take_succ_eq_append_getElem h1, List.take_succ_eq_append_getElem h2, he]
 have e1 : l1[i] = l1.getD i 0 := by simp [List.getD_eq_getElem?_getD, List.getElem?_eq_getElem h1]
 have e2 : l2[i] = l2.getD i 0 := by simp [List.getD_eq_getElem?_getD, List.getElem?_eq_getElem h2]
 rw [e1, e2, hx]
theorem list_diff {l1 l2 : List Int} {i : Nat} (hx : l1.getD i 0 ≠ l2.getD i 0) : ¬ l1 = l2 := fun h => hx (by rw [h])
def ratB (n1 : Bool) (l1 l2 : List Int) (m1 : Bool) (k1 k2 : List Int) : Bool := (n1 == m1) && (decide (l1 = k1) && decide (l2 = k2))
set_option maxHeartbeats 4000000 in
set_option maxRecDepth 10000 in
theorem equalInts_ok {I : yh} (hI : Plain I) {s : St} (hf : Fine s) {v1 v2 : Value} {l1 l2 : List Int} (h1 : SlD s v1 l1) (h2 : SlD s v2 l2) (hlen : l1.length ≤ 1000000) (hroom : s.next ≤ zp) :
  ∃ v' s', yJ Tryz.prog I 202 #[v1, v2] s v' s' ∧ (v' = .bool (decide (l1 = l2)) ∧ HL [] s s' [] 0) := by
 have H := hf.hl
 obtain ⟨a1, n1, c1, rfl, hn1⟩ := h1.isSlice
 rw [List.length_map] at hn1
 subst hn1
 obtain ⟨a2, n2, c2, rfl, hn2⟩ := h2.isSlice
 rw [List.length_map] at hn2
 subst hn2
 refine yf 2 (hI 202 (by decide) (by decide)) Tryz.func202 rfl fb202 rfl ?_
 refine zf (za rfl (zh (zb (zy (zf (za rfl (zk rfl (za rfl (zZ xt rfl rfl rfl (za rfl (zk rfl (za rfl (zZ xt rfl rfl rfl (za rfl (yG rfl rfl (fun h => ?_) (fun h => ?_))))))))))))))))
 ·refine zb (zq rfl (zf (za rfl (zh (zb (zr (zo (zm (zN (⟨congrArg Value.bool ?_, H⟩))))))))))
  symm
  rw [decide_eq_false_iff_not]
  intro he
  apply h
  rw [he]
 refine zb (zw rfl (zD (zj (zy (zf (za rfl (zk rfl (za rfl (zZ xt rfl rfl rfl (za rfl (ql (zb (zH (yu (fun k F s1 => ∃ (G : FF) (i : Nat), F = lay G [(0, .slice a1 l1.length c1), (1, .slice a2 l2.length c2), (12, .int .i64 (l1.length : Int)), (13, .int .i64 (i : Int))] ∧ HL [] s s1 [] 0 ∧ i ≤ l1.length ∧ k = l1.length - i ∧ l1.take i = l2.take i) ?_ l1.length _ _ ?_))))))))))))))
 rotate_left
 ·exact ⟨_, 0, yb ⟨rfl, rfl, rfl, rfl, trivial⟩, H, by omega, by omega, by simp⟩
 rintro k F s1 ⟨G, i, rfl, H, hi, rfl, hte⟩
 refine zf (za rfl (ye rfl rfl (fun h => ?_) (fun h => ?_)))
 ·refine zb (zy (zq rfl (zD (zj (zy (zH (zf (za rfl (ze rfl (za rfl (zl rfl (zb (yn [⟨0, 0, .light, [7]⟩, ⟨1, 0, .light, [7]⟩, ⟨2, 3, .light, [7]⟩, ⟨3, 7, .light, [7]⟩, ⟨4, 0, .light, [3]⟩, ⟨5, 0, .light, [3]⟩, ⟨6, 48, .light, [3]⟩, ⟨7, 112, .light, [3]⟩, ⟨8, 255, .light, []⟩] (by kernel_rfl) (by kernel_rfl) ?_)))))))))))))
  obtain ⟨b1, oo1, d1, rfl, hg1, hb1, hc1⟩ := (h1.kept H).atD (i := (i : Int)) (k := i) rfl (by omega)
  obtain ⟨b2, oo2, d2, rfl, hg2, hb2, hc2⟩ := (h2.kept H).atD (i := (i : Int)) (k := i) rfl (by omega)
  have hl1 : b1 < zp := Nat.lt_of_lt_of_le hb1 (by have hmo := H.most; (try simp only at hmo); omega)
  have hl2 : b2 < zp := Nat.lt_of_lt_of_le hb2 (by have hmo := H.most; (try simp only at hmo); omega)
  refine zd rfl rfl (zk rfl ⟨rfl, (zd rfl rfl (ze rfl ⟨rfl, (zd rfl rfl (zA xP rfl rfl (by omega) (by omega) ⟨rfl, (zG rfl rfl sh3 rfl hg1 hl1 hc1 (zd rfl rfl (zk rfl ⟨rfl, (zd rfl rfl (ze rfl ⟨rfl, (zd rfl rfl (zA xP rfl rfl (by omega) (by omega) ⟨rfl, (zG rfl rfl sh3 rfl hg2 hl2 hc2 (zd rfl rfl (yG rfl rfl (fun h => ⟨rfl, ?_⟩) (fun h => ⟨rfl, ?_⟩))))⟩))⟩))⟩)))⟩))⟩))⟩)
  ·refine zR (zq rfl (zf (za rfl (zh (zb (zr (zu (zo (zL (zu (zo (zm ?_))))))))))))
   refine zN (⟨congrArg Value.bool ?_, H⟩)
   symm
   rw [decide_eq_false_iff_not]
   exact list_diff h
  refine zR (zw rfl (zD (zK (zj (zC (za rfl (zW rfl rfl (by unfold zV; omega) (za rfl (ze rfl (zb (zI ?_)))))))))))
  exact ⟨l1.length - (i + 1), by omega, _, i + 1, yb ⟨rfl, rfl, rfl, rfl, trivial⟩, H, by omega, rfl, list_step (by omega) (by omega) hte (by omega)⟩
 refine zb (zy (zw rfl (yc (zQ (ya (zY (zj (zf (za rfl (zh (zb (zr ?_))))))))))))
 refine zm (zN (⟨congrArg Value.bool ?_, H⟩))
 symm
 rw [decide_eq_true_eq]
 rw [List.take_of_length_le (by omega), List.take_of_length_le (by omega)] at hte
 exact hte
set_option maxHeartbeats 4000000 in
set_option maxRecDepth 10000 in
theorem equal_ok {I : yh} (hI : Plain I) {s : St} (hf : Fine s) {n1 n2 m1 m2 : Bool} {a1 a2 e1 e2 : Option Addr} {k1 k2 j1 j2 c1 c2 d1 d2 : Nat} {l1 l2 q1 q2 : List Int} (h1 : SlD s (.slice a1 k1 c1) l1) (h2 : SlD s (.slice a2 k2 c2) l2) (g1 : SlD s (.slice e1 j1 d1) q1) (g2 : SlD s (.slice e2 j2 d2) q2) (hl1 : l1.length ≤ 3) (hl2 : l2.length ≤ 3) (hroom : s.next + 2 ≤ zp) :
  ∃ v' s', yJ Tryz.prog I 154 #[.agg ⟨[.bool n1, .slice a1 k1 c1, .bool n2, .slice a2 k2 c2]⟩, .agg ⟨[.bool m1, .slice e1 j1 d1, .bool m2, .slice e2 j2 d2]⟩] s v' s' ∧ (v' = .bool (ratB n1 l1 l2 m1 q1 q2) ∧ HL [] s s' [] 2) := by
 have H := hf.hl
 refine yf 2 (hI 154 (by decide) (by decide)) Tryz.func154 rfl fb154 rfl ?_
 refine zf (za rfl (yI H rfl (by omega) (fun b2 s1 H => ?_)))
 refine za rfl (yI H rfl (by omega) (fun b3 s2 H => ?_))
 refine za rfl (zh (zb (zf (za rfl (zg of58_0 rfl (za rfl (zg of56_0 rfl (za rfl (zn sh4 rfl H.own1 rfl (za rfl (zg of58_0 rfl (za rfl (zg of56_0 rfl (za rfl (zn sh4 rfl H.own0 rfl (za rfl (op_eqb un4 rfl rfl ?_)))))))))))))))))
 cases hb1 : (n1 == m1)
 ·refine za rfl (zi rfl (zc rfl (zc rfl (zc rfl (zc rfl (zc rfl (zc rfl (zc rfl (za rfl (z6 rfl (za rfl (zi rfl (zc rfl (zc rfl ?_))))))))))))))
  refine zc rfl (zc rfl (zc rfl (zc rfl (zc rfl (za rfl (z6 rfl (za rfl (zt rfl (zb (zr (zm (zN (⟨congrArg Value.bool ?_, H.sub (List.nil_sublist _)⟩)))))))))))))
  unfold ratB
  simp [*]
 refine za rfl (zi rfl (za rfl (zg of58_0 rfl (za rfl (zg yO rfl (za rfl (zn yS rfl H.own1 rfl (za rfl (zg of58_0 rfl (za rfl (zg yO rfl (za rfl (zn yS rfl H.own0 rfl (za rfl (zx rfl fc202 rfl ?_)))))))))))))))
 obtain ⟨_, s9, hr, rfl, Hc⟩ := equalInts_ok hI H.fine (h1.kept H) (g1.kept H) (by omega) (by have := H.most; omega)
 refine ⟨_, _, hr, ?_⟩
 clear hr
 have H := H.call0 Hc
 clear Hc
 cases hb2 : decide (l1 = q1)
 ·refine za rfl (zM rfl rfl (za rfl (zi rfl (zc rfl (zc rfl (zc rfl (zc rfl (zc rfl (zc rfl (zc rfl (za rfl (z6 rfl (za rfl (zt rfl (zb ?_)))))))))))))))
  refine zr (zm (zN (⟨congrArg Value.bool ?_, H.sub (List.nil_sublist _)⟩)))
  unfold ratB
  simp [*]
 refine za rfl (zM rfl rfl (za rfl (zi rfl (za rfl (zg of58_1 rfl (za rfl (zg yO rfl (za rfl (zn yS rfl H.own1 rfl (za rfl (zg of58_1 rfl (za rfl (zg yO rfl (za rfl (zn yS rfl H.own0 rfl (za rfl (zx rfl fc202 rfl ?_)))))))))))))))))
 obtain ⟨_, s9, hr, rfl, Hc⟩ := equalInts_ok hI H.fine (h2.kept H) (g2.kept H) (by omega) (by have := H.most; omega)
 refine ⟨_, _, hr, ?_⟩
 clear hr
 have H := H.call0 Hc
 clear Hc
 cases hb3 : decide (l2 = q2)
 ·refine za rfl (zM rfl rfl (za rfl (zt rfl (zb (zr (zm (zN (⟨congrArg Value.bool ?_, H.sub (List.nil_sublist _)⟩))))))))
  unfold ratB
  simp [*]
 refine za rfl (zM rfl rfl (za rfl (zt rfl (zb (zr (zm (zN (⟨congrArg Value.bool ?_, H.sub (List.nil_sublist _)⟩))))))))
 unfold ratB
 simp [*]
end Go.Proofs.YtdejleegamcioaaGreat
