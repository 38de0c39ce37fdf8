/- undo.clean: what is left of a list that begins with a cleaning. -/
/- Small functions on sets and numbers. -/
/- Copies of lists of sets; a search in them. -/
import Derived.Test.YtdejleegamcioaaGreatC23
namespace Go.Proofs.YtdejleegamcioaaGreat
open Go Go.M
theorem fb56 : yx Tryz.f56 (Tryz.f56.body.getD .skip) 5 = true := by kernel_rfl
theorem fc56 : yp Tryz.prog 56 = true := by kernel_rfl
theorem fc94 : yp Tryz.prog 94 = true := by kernel_rfl
end Go.Proofs.YtdejleegamcioaaGreat
namespace Go.M
section
variable {P : Program} {I : yh} {F : FF} {s : St} {Q : FF → St → Prop} {d : Option Tmp} {ty : TypeId} {pos : String} {af : Array Edge} {g : Option (Nat × Bool)}
theorem op_sliceLo {t e : TypeId} {x lo : Operand} {sz by_ b off len cap m : Nat} {z c : List Value} {kd : IntKind} {a : Int} (hs : xn P t = some (e, sz, by_, z)) (hx : zS F x = .slice (some ⟨b, off, none⟩) len cap) (hh : zS F lo = .int kd a) (hm : a = (m : Int)) (hg : s.get b = some (.cells c e)) (h1 : m ≤ len) (h2 : len ≤ cap / 2)
  (k : ∀ off' cap', (m < len → off' = off + m * sz) → cap' / 2 = cap / 2 - m → Q (upd F d (.slice (some ⟨b, off', none⟩) (len - m) cap')) s) : OpW P I ⟨d, .slice t x (some lo) none none, ty, pos, af, g⟩ F s Q := by
 obtain ⟨hu, inf, z', hi', rfl, rfl, hz, hz1, hz2⟩ := xc hs
 subst hm
 have hb : (Nat.ble m len && Nat.ble len (cap / 2) && Nat.ble (cap / 2) (cap / 2) && ((none : Option Value).isSome || !(none : Option Value).isSome)) = true := by
  simp only [Bool.and_eq_true]
  exact ⟨⟨⟨Nat.ble_eq_true_of_le h1, Nat.ble_eq_true_of_le h2⟩, Nat.ble_eq_true_of_le (Nat.le_refl _)⟩, rfl⟩
 have hrow : rowB e (some ⟨b, off, none⟩) cap s = true := by
  simp only [rowB, hg, Nat.beq_refl]
  split <;> rfl
 have hadd : ∀ n, Option.map (fun x => x.add n) (some (⟨b, off, none⟩ : Addr)) = some ⟨b, off + n, none⟩ := fun n => by
  simp only [Option.map_some, Addr.add]
  split
  ·next h => rw [h]; rfl
  ·rfl
 rcases Nat.mod_two_eq_zero_or_one cap with h | h
 ·by_cases hq : cap / 2 = m
  ·refine ym (v := .slice (some ⟨b, off, none⟩) (len - m) (2 * (cap / 2 - m))) (s' := s) ?_ (k off (2 * (cap / 2 - m)) (fun hl => by omega) (by omega))
   simp only [zT, sliceM, hu, hi', hx, Option.map_none, Option.map_some, hh, h]
   simp only [qM, xf (v := some (.int kd (m : Int))) (d := 0) (m := m) (.inr ⟨kd, rfl⟩), xf (v := none) (d := len) (m := len) (.inl ⟨rfl, rfl⟩), xf (v := none) (d := cap / 2) (m := cap / 2) (.inl ⟨rfl, rfl⟩), hb, Bool.true_or]
   rw [show Nat.beq (cap / 2) m = true from Nat.beq_eq.mpr hq, if_pos rfl]
   rfl
  ·refine ym (v := .slice (some ⟨b, off + m * inf.size, none⟩) (len - m) (2 * (cap / 2 - m))) (s' := s) ?_ (k (off + m * inf.size) (2 * (cap / 2 - m)) (fun _ => rfl) (by omega))
   simp only [zT, sliceM, hu, hi', hx, Option.map_none, Option.map_some, hh, h]
   simp only [qM, xf (v := some (.int kd (m : Int))) (d := 0) (m := m) (.inr ⟨kd, rfl⟩), xf (v := none) (d := len) (m := len) (.inl ⟨rfl, rfl⟩), xf (v := none) (d := cap / 2) (m := cap / 2) (.inl ⟨rfl, rfl⟩), hb, Bool.true_or]
   rw [if_neg (by intro hc; exact hq (Nat.beq_eq.mp hc)), hadd]
   rfl
 ·refine ym (v := .slice (some ⟨b, off + m * inf.size, none⟩) (len - m) (2 * (cap / 2 - m) + 1)) (s' := s) ?_ (k (off + m * inf.size) (2 * (cap / 2 - m) + 1) (fun _ => rfl) (by omega))
  simp only [zT, sliceM, hu, hi', hx, Option.map_none, Option.map_some, hh, h]
  simp only [hrow, qM, xf (v := some (.int kd (m : Int))) (d := 0) (m := m) (.inr ⟨kd, rfl⟩), xf (v := none) (d := len) (m := len) (.inl ⟨rfl, rfl⟩), xf (v := none) (d := cap / 2) (m := cap / 2) (.inl ⟨rfl, rfl⟩), hb, Bool.false_or]
  rw [hadd]
  rfl
end
end Go.M
namespace Go.Proofs.YtdejleegamcioaaGreat
open Go Go.M
theorem Sl.cap2 {s : St} {e : TypeId} {sz : Nat} {a : Option Addr} {len cap : Nat} {es : List (List Value)} (h : Sl s e sz (.slice a len cap) es) : len ≤ cap / 2 := h.cap
theorem Sl.dropS {s : St} {e : TypeId} {sz : Nat} {b off cap : Nat} {es : List (List Value)} {len : Nat} (h : Sl s e sz (.slice (some ⟨b, off, none⟩) len cap) es) (hlen : len = es.length) {m off' cap' : Nat} (hm : m ≤ len) (ho : m < len → off' = off + m * sz) (hc2 : cap' / 2 = cap / 2 - m) : Sl s e sz (.slice (some ⟨b, off', none⟩) (len - m) cap') (es.drop m) := by
 subst hlen
 cases h with
 | nil c hv hl => cases hv
 | block b off cap c hv hg hb hcap hc =>
  cases hv
  refine .block b off' cap' c (by rw [List.length_drop]) hg hb (by rw [List.length_drop]; omega) fun k hk => ?_
  rw [List.length_drop] at hk
  rw [ho (by omega), show off + m * sz + k * sz = off + (m + k) * sz by rw [Nat.add_mul]; omega, hc (m + k) (by omega)]
  simp [List.getD_eq_getElem?_getD]
def CnP (o : Option (List Sp)) (s' : St) (v' : Value) : Prop := match o with
 | some r => ∃ a c, v' = .tuple ⟨[.slice a r.length c, .bool true]⟩ ∧ Sl s' 62 10 (.slice a r.length c) (r.map Sp.cells)
 | none => v' = .tuple ⟨[.slice none 0 0, .bool false]⟩
def CnC (I : yh) (δ : Slc → List Int) (js : List (Int × Int)) (bad : Int) (may : List Sp) (ja ma : Option Addr) (jcp mcp : Nat) (f : Nat) : Prop :=
 ∀ (S : Int), 0 < S → S.toNat < f → ∀ (l : List Sp) (la : Option Addr) (lcp : Nat), l.length ≤ 1000 → ∀ (s : St), Fine s → UsSt s δ (.slice ja js.length jcp) (.slice ma may.length mcp) (.slice la l.length lcp) js may l → s.next + tc l.length ≤ zp →
  ∃ v' s', yJ Tryz.prog I 56 #[.int .i64 S, .slice ja js.length jcp, .int .i64 bad, .slice ma may.length mcp, .slice la l.length lcp] s v' s' ∧ (CnP (yP δ js bad may f S l) s' v' ∧ HL [] s s' [] (tc l.length))
set_option maxHeartbeats 4000000 in
set_option maxRecDepth 10000 in
theorem clean_step2 {I : yh} (hI : Plain I) {δ : Slc → List Int} {js : List (Int × Int)} {bad : Int} {may : List Sp} (hj : ∀ j ∈ js, kf j) (hjl : js.length ≤ 16) (hm : yZ may) (hml : may.length ≤ 15) {ja ma : Option Addr} {jcp mcp : Nat} {f : Nat} (ih : CnC I δ js bad may ja ma jcp mcp f) : CnC I δ js bad may ja ma jcp mcp (f + 1) := by
 intro S hS hSf l la lcp hlen s hf hu hroom
 have H := hf.hl
 have hT : 300 ≤ tc l.length := tc_mono (a := 0) (by omega)
 refine yf 5 (hI 56 (by decide) (by decide)) Tryz.func56 rfl fb56 rfl ?_
 refine zf (za rfl (op_boxS H rfl (by omega) (fun b9 s1 H => ?_)))
 refine za rfl (zh (za rfl (zh (zb (zy (zf (za rfl (ze rfl (za rfl (zk rfl (za rfl (ze rfl (za rfl (zx rfl fc42 rfl ?_))))))))))))))
 obtain ⟨_, s9, hr, rfl, Hc⟩ := needs_ok (x := S) (bad := bad) hI H.fine (hu.sJ.kept H) hj hjl (by have := H.most; omega)
 refine ⟨_, _, hr, ?_⟩
 clear hr
 have H := H.call0 Hc
 clear Hc
 cases hnd : yj S bad 0 js
 ·refine za rfl (yz rfl (zb (zq rfl (zf (za rfl (zn sh25 rfl H.own0 rfl (za rfl (zO rfl (za rfl (zh (zb (zr (zo (zm (yE rfl rfl ?_)))))))))))))))
  refine ⟨?_, H.drop0.up (by omega)⟩
  rw [cleanZ_no hnd]
  exact ⟨_, _, rfl, hu.sL.kept H⟩
 refine za rfl (yz rfl (zb (zw rfl (zD (zj (zy (zf (za rfl (zn sh25 rfl H.own0 rfl (za rfl (zZ xM rfl rfl rfl (za rfl (yD rfl rfl (fun h => ?_) (fun h => ?_))))))))))))))
 ·refine za rfl (zi rfl (zc rfl (zc rfl (zc rfl (zc rfl (zc rfl (zc rfl (za rfl (zB rfl (za rfl (zi rfl (zc rfl (zc rfl (zc rfl ?_))))))))))))))
  refine zc rfl (za rfl (zB rfl (zb (zq rfl (zf (za rfl (zh (za rfl (zh (zb (zr (zo (zm (yE rfl rfl ?_))))))))))))))
  refine ⟨?_, H.drop0.up (by omega)⟩
  have hz : yP δ js bad may (f + 1) S l = none := by
   first
    | (rw [List.eq_nil_of_length_eq_zero (show l.length = 0 by omega), cleanZ_nil hnd])
    | (rw [hdr, y7 hnd, if_neg]; rintro ⟨hw, hany⟩; first | exact h hw | (rw [hb] at hany; cases hany))
  rw [hz]
  exact rfl
 refine za rfl (zi rfl ?_)
 have hdr : l = (l.getD 0 default) :: l.drop 1 := by have := yw (l := l) (k := 0) default (by omega); simpa using this
 obtain ⟨el, ool, dl, hel, hgl, hbl, hcl⟩ := (hu.sL.kept H).atS (i := 0) (k := 0) rfl (by omega)
 cases hel
 obtain ⟨cl2, hgl2, hlw, hlp⟩ := (hu.sL.kept H).gotS (k := 0) (by omega)
 have hll : el < zp := Nat.lt_of_lt_of_le hbl (by have hmo := H.most; (try simp only at hmo ⊢); omega)
 refine za rfl (zn sh25 rfl H.own0 rfl (za rfl (zA x9 rfl rfl (by omega) (by omega) (za rfl (zg xi rfl (za rfl (zn ys rfl hgl2 hlw (za rfl (ze rfl (za rfl (yG rfl rfl (fun h => ?_) (fun h => ?_))))))))))))
 ·refine za rfl (zv rfl rfl (za rfl (zi rfl (zc rfl (zc rfl (zc rfl (zc rfl (za rfl (zB rfl (zb (zq rfl (zf (za rfl (zh (za rfl (zh ?_))))))))))))))))
  refine zb (zr (zo (zm (yE rfl rfl (⟨?_, H.drop0.up (by omega)⟩)))))
  have hz : yP δ js bad may (f + 1) S l = none := by
   first
    | (rw [List.eq_nil_of_length_eq_zero (show l.length = 0 by omega), cleanZ_nil hnd])
    | (rw [hdr, y7 hnd, if_neg]; rintro ⟨hw, hany⟩; first | exact h hw | (rw [hb] at hany; cases hany))
  rw [hz]
  exact rfl
 refine za rfl (zv rfl rfl (za rfl (zi rfl (za rfl (zk rfl (za rfl (op_makeFunc (za rfl (zx rfl fc84 rfl ?_)))))))))
 obtain ⟨_, s9, hr, rfl, Hc⟩ := containsFunc_ok (fa := #[]) (fb := #[ptr b9]) (K := 13) (p := fun m => x6 δ m (l.getD 0 default)) hI H.fine (hu.sM.kept H) fc94 (fun s1 m x hx H1 hr1 => cleanF_ok hI H1.fine (H1.old H.lt0 H.own0) (by have := H1.le; have := H.lt0; omega) ((hu.sL.kept H).kept H1) (by omega) (((hu.dM x hx).1.kept H).kept H1) (((hu.dL _ (zP (by omega))).1.kept H).kept H1) hr1) (by omega) (by have := H.most; omega)
 refine ⟨_, _, hr, ?_⟩
 clear hr
 have H := H.call0 Hc
 clear Hc
 cases hb : may.any (fun m => x6 δ m (l.getD 0 default))
 ·refine za rfl (yz rfl (za rfl (zv rfl rfl (zb (zq rfl (zf (za rfl (zh (za rfl (zh (zb (zr (zo (zm (yE rfl rfl ?_)))))))))))))))
  refine ⟨?_, H.drop0.up (by omega)⟩
  have hz : yP δ js bad may (f + 1) S l = none := by
   first
    | (rw [List.eq_nil_of_length_eq_zero (show l.length = 0 by omega), cleanZ_nil hnd])
    | (rw [hdr, y7 hnd, if_neg]; rintro ⟨hw, hany⟩; first | exact h hw | (rw [hb] at hany; cases hany))
  rw [hz]
  exact rfl
 refine za rfl (yz rfl (za rfl (zv rfl rfl (zb (zw rfl (zD (zj ?_)))))))
 have hxw : (l.getD 0 default).w = S := by simpa using h
 obtain ⟨hsp, hpb⟩ := same_split hm hb
 obtain ⟨hf1, hf2, hf3, hf4, hf5, hf6⟩ := yR hsp hpb
 obtain ⟨n1, hn1⟩ : ∃ n1, l.length = n1 + 1 := ⟨l.length - 1, by omega⟩
 have hT1 : tc l.length = 300 + 2 * tc (l.length - 1) := by rw [hn1]; rfl
 refine yn [⟨0, 0, .light, [7]⟩, ⟨1, 1, .light, [7]⟩, ⟨2, 3, .light, [7]⟩, ⟨3, 7, .light, [7]⟩, ⟨4, 0, .light, [0, 3, 7]⟩, ⟨5, 0, .light, [0, 3, 7]⟩, ⟨6, 0, .light, [0, 3, 7]⟩, ⟨7, 0, .light, [0, 3]⟩, ⟨8, 128, .whole, [0, 3]⟩, ⟨9, 511, .whole, []⟩, ⟨10, 1023, .light, []⟩, ⟨11, 2047, .light, []⟩, ⟨12, 2047, .light, []⟩, ⟨13, 4095, .light, []⟩, ⟨14, 16383, .light, []⟩] (by kernel_rfl) (by kernel_rfl) ?_
 obtain ⟨el, ool, dl, hel, hgl, hbl, hcl⟩ := (hu.sL.kept H).atS (i := 0) (k := 0) rfl (by omega)
 cases hel
 obtain ⟨cl2, hgl2, hlw, hlp⟩ := (hu.sL.kept H).gotS (k := 0) (by omega)
 have hll : el < zp := Nat.lt_of_lt_of_le hbl (by have hmo := H.most; (try simp only at hmo ⊢); omega)
 refine zG rfl rfl sh25 rfl H.own0 (by exact H.lim0 (by omega)) rfl (zd rfl rfl (zA x9 rfl rfl (by omega) (by omega) ⟨rfl, (zd rfl rfl (zg y8 rfl ⟨rfl, (zG rfl rfl ys rfl hgl2 hll hlp (zd rfl rfl (zk rfl ⟨rfl, (zd rfl rfl (ze rfl ⟨rfl, (zd rfl rfl (zk rfl ⟨rfl, (zG rfl rfl sh25 rfl H.own0 (by exact H.lim0 (by omega)) rfl (zX rfl rfl (op_sliceLo (m := 1) sl25 rfl rfl rfl hgl2 (by omega) (hu.sL.kept H).cap2 (fun ol lc hol hlc => ?_))))⟩))⟩))⟩)))⟩))⟩))
 refine zX rfl rfl (zx rfl fc56 rfl ?_)
 have hsd := Sl.dropS (m := 1) (off' := ol) (cap' := lc) (hu.sL.kept H) (by rw [List.length_map]) (by omega) hol hlc
 rw [← List.map_drop] at hsd
 obtain ⟨v9, s9, hr, hP, Hc⟩ := ih (l.getD 0 default).p hf1 (by omega) (l.drop 1) (some ⟨el, ol, none⟩) lc (by rw [List.length_drop]; omega) _ H.fine ⟨hu.sJ.kept H, hu.sM.kept H, by rw [List.length_drop]; exact hsd, fun x hx => ⟨(hu.dM x hx).1.kept H, (hu.dM x hx).2⟩, fun x hx => ⟨(hu.dL x (List.mem_of_mem_drop hx)).1.kept H, (hu.dL x (List.mem_of_mem_drop hx)).2⟩⟩ (by have hmo := H.most; (try simp only at hmo); rw [List.length_drop]; omega)
 rw [List.length_drop] at hr Hc
 refine ⟨_, _, hr, ?_⟩
 clear hr
 have H := H.call0 (HL.wider H.fine (Nat.le_refl _) (fun _ h => h) Hc)
 clear Hc
 rcases hcz : yP δ js bad may f (l.getD 0 default).p (l.drop 1) with _ | r
 ·rw [hcz] at hP
  obtain rfl : v9 = .tuple ⟨[.slice none 0 0, .bool false]⟩ := hP
  refine zd rfl rfl (yv rfl ⟨rfl, (zd rfl rfl (zF rfl rfl ⟨rfl, (zd rfl rfl (zF rfl rfl ⟨rfl, (zd rfl rfl (zO rfl ⟨rfl, (zd rfl rfl (zt rfl ⟨rfl, (zR (zy (zf (za rfl (zi rfl (za rfl (yz rfl (zb (zq rfl ?_)))))))))⟩))⟩))⟩))⟩))⟩)
  refine zf (za rfl (zh (za rfl (zh (zb (zr (zo (zm (yE rfl rfl (⟨?_, H.drop0.up (by omega)⟩))))))))))
  have hz : yP δ js bad may (f + 1) S l = none := by rw [hdr, y7 hnd, if_pos ⟨hxw, hb⟩, hcz]
  rw [hz]
  exact rfl
 rw [hcz] at hP
 obtain ⟨ra, rc, rfl, hrS⟩ := hP
 refine zd rfl rfl (yv rfl ⟨rfl, (zd rfl rfl (zF rfl rfl ⟨rfl, (zd rfl rfl (zF rfl rfl ⟨rfl, (zd rfl rfl (zO rfl ⟨rfl, (zd rfl rfl (zt rfl ⟨rfl, (zR (zy (zf (za rfl (zi rfl (za rfl (yz rfl (zb (zw rfl ?_)))))))))⟩))⟩))⟩))⟩))⟩)
 refine zD (zj ?_)
 obtain ⟨kk, hkk, hrk⟩ := cleanZ_drop _ _ _ _ hcz
 rw [List.length_drop] at hkk
 have hrl : r.length = l.length - 1 - kk := by rw [hrk, List.length_drop, List.length_drop]
 have hrsub : ∀ x ∈ r, x ∈ l := fun x hx => by rw [hrk] at hx; exact List.mem_of_mem_drop (List.mem_of_mem_drop hx)
 have hT2 : tc r.length ≤ tc (l.length - 1) := tc_mono (by omega)
 refine zf (za rfl (ze rfl ?_))
 obtain ⟨el, ool, dl, hel, hgl, hbl, hcl⟩ := (hu.sL.kept H).atS (i := 0) (k := 0) rfl (by omega)
 cases hel
 obtain ⟨cl2, hgl2, hlw, hlp⟩ := (hu.sL.kept H).gotS (k := 0) (by omega)
 have hll : el < zp := Nat.lt_of_lt_of_le hbl (by have hmo := H.most; (try simp only at hmo ⊢); omega)
 refine za rfl (zn sh25 rfl H.own0 rfl (za rfl (zA x9 rfl rfl (by omega) (by omega) (za rfl (zg y8 rfl (za rfl (zn ys rfl hgl2 hlp (za rfl (qS rfl rfl (za rfl (zk rfl (za rfl (ze rfl (za rfl (zk rfl (za rfl (zk rfl (za rfl (zx rfl fc56 rfl ?_)))))))))))))))))))
 obtain ⟨v10, s10, hr, hP2, Hc⟩ := ih (zJ S (l.getD 0 default).p) (by rw [hxw] at hf3; exact hf3) (by rw [hxw] at hf4 hf2; omega) r ra rc (by omega) _ H.fine ⟨hu.sJ.kept H, hu.sM.kept H, hrS.heap rfl rfl, fun x hx => ⟨(hu.dM x hx).1.kept H, (hu.dM x hx).2⟩, fun x hx => ⟨(hu.dL x (hrsub x hx)).1.kept H, (hu.dL x (hrsub x hx)).2⟩⟩ (by have hmo := H.most; (try simp only at hmo ⊢); omega)
 refine ⟨_, _, hr, ?_⟩
 clear hr
 have H := H.call0 Hc
 clear Hc
 rcases hcz2 : yP δ js bad may f (zJ S (l.getD 0 default).p) r with _ | r2
 ·rw [hcz2] at hP2
  obtain rfl : v10 = .tuple ⟨[.slice none 0 0, .bool false]⟩ := hP2
  refine za rfl (zF rfl rfl (za rfl (zF rfl rfl (za rfl (zO rfl (za rfl (zt rfl (zb (zr (zm (yE rfl rfl (⟨?_, H.drop0.up (by omega)⟩))))))))))))
  have hz : yP δ js bad may (f + 1) S l = yP δ js bad may f (zJ S (l.getD 0 default).p) r := by
   conv => lhs; rw [hdr]
   rw [y7 hnd, if_pos ⟨hxw, hb⟩, hcz]
  rw [hz]
  rw [hcz2]
  exact rfl
 rw [hcz2] at hP2
 obtain ⟨ra2, rc2, rfl, hrS2⟩ := hP2
 refine za rfl (zF rfl rfl (za rfl (zF rfl rfl (za rfl (zO rfl (za rfl (zt rfl (zb (zr (zm (yE rfl rfl (⟨?_, H.drop0.up (by omega)⟩))))))))))))
 have hz : yP δ js bad may (f + 1) S l = yP δ js bad may f (zJ S (l.getD 0 default).p) r := by
  conv => lhs; rw [hdr]
  rw [y7 hnd, if_pos ⟨hxw, hb⟩, hcz]
 rw [hz]
 rw [hcz2]
 exact ⟨_, _, rfl, hrS2⟩
theorem cleanP_ok {I : yh} (hI : Plain I) {δ : Slc → List Int} {js : List (Int × Int)} {bad : Int} {may : List Sp} (hj : ∀ j ∈ js, kf j) (hjl : js.length ≤ 16) (hm : yZ may) (hml : may.length ≤ 15) {ja ma : Option Addr} {jcp mcp : Nat} : ∀ f, CnC I δ js bad may ja ma jcp mcp f
 | 0 => fun S _ h => by omega
 | f + 1 => clean_step2 hI hj hjl hm hml (cleanP_ok hI hj hjl hm hml f)
end Go.Proofs.YtdejleegamcioaaGreat
namespace Go.Proofs.YtdejleegamcioaaGreat
open Go Go.M
theorem fb200 : yx Tryz.f200 (Tryz.f200.body.getD .skip) 1 = true := by kernel_rfl
theorem fb155 : yx Tryz.f155 (Tryz.f155.body.getD .skip) 1 = true := by kernel_rfl
theorem fb146 : yx Tryz.f146 (Tryz.f146.body.getD .skip) 2 = true := by kernel_rfl
theorem fc200 : yp Tryz.prog 200 = true := by kernel_rfl
theorem fb102 : yx Tryz.f102 (Tryz.f102.body.getD .skip) 1 = true := by kernel_rfl
theorem fb104 : yx Tryz.f104 (Tryz.f104.body.getD .skip) 1 = true := by kernel_rfl
theorem fb156 : yx Tryz.f156 (Tryz.f156.body.getD .skip) 2 = true := by kernel_rfl
theorem fc102 : yp Tryz.prog 102 = true := by kernel_rfl
theorem fb101 : yx Tryz.f101 (Tryz.f101.body.getD .skip) 2 = true := by kernel_rfl
theorem fc156 : yp Tryz.prog 156 = true := by kernel_rfl
theorem fb157 : yx Tryz.f157 (Tryz.f157.body.getD .skip) 2 = true := by kernel_rfl
theorem fc104 : yp Tryz.prog 104 = true := by kernel_rfl
theorem fb103 : yx Tryz.f103 (Tryz.f103.body.getD .skip) 2 = true := by kernel_rfl
theorem fc157 : yp Tryz.prog 157 = true := by kernel_rfl
theorem fb96 : yx Tryz.f96 (Tryz.f96.body.getD .skip) 1 = true := by kernel_rfl
theorem fc146 : yp Tryz.prog 146 = true := by kernel_rfl
def Srt (l : List Int) : Prop := ∀ j, j + 1 < l.length → l.getD j 0 ≤ l.getD (j + 1) 0
def findP (p : Int → Bool) : Nat → List Int → Int
 | _, [] => -1
 | i, x :: r => if p x then (i : Int) else findP p (i + 1) r
theorem findP_any (p : Int → Bool) : ∀ (l : List Int) (i : Nat), decide (0 ≤ findP p i l) = l.any p
 | [], i => by simp [findP]
 | x :: l, i => by
  simp only [findP, List.any_cons]
  split
  ·next h => simp [h]
  ·next h => rw [findP_any p l (i + 1)]; simp [h]
def setB (x : Int) : Bool := decide (x < 1) || decide (65536 ≤ x)
def numB (x : Int) : Bool := decide (x < 0) || decide (65536 < x)
set_option maxHeartbeats 4000000 in
set_option maxRecDepth 10000 in
theorem nanA_ok {I : yh} (hI : Plain I) {s : St} {x : Int} : ∃ v s', yJ Tryz.prog I 200 #[.int .i64 x] s v s' ∧ (v = .bool false ∧ s' = s) := by
 refine yf 1 (hI 200 (by decide) (by decide)) Tryz.func200 rfl fb200 rfl ?_
 refine zf (za rfl (zh (zb (zf (za rfl (ze rfl (za rfl (ze rfl (za rfl (yG rfl rfl (fun h => False.elim (by exact h rfl)) (fun h => ?_)))))))))))
 refine za rfl (zt rfl (zb (zr (zm (zN ?_)))))
 exact ⟨rfl, rfl⟩
set_option maxHeartbeats 4000000 in
set_option maxRecDepth 10000 in
theorem nanB_ok {I : yh} (hI : Plain I) {s : St} {x : Int} : ∃ v s', yJ Tryz.prog I 155 #[.int .i64 x] s v s' ∧ (v = .bool false ∧ s' = s) := by
 refine yf 1 (hI 155 (by decide) (by decide)) Tryz.func155 rfl fb155 rfl ?_
 refine zf (za rfl (zh (zb (zf (za rfl (ze rfl (za rfl (ze rfl (za rfl (yG rfl rfl (fun h => False.elim (by exact h rfl)) (fun h => ?_)))))))))))
 refine za rfl (zt rfl (zb (zr (zm (zN ?_)))))
 exact ⟨rfl, rfl⟩
set_option maxHeartbeats 4000000 in
set_option maxRecDepth 10000 in
theorem less_ok {I : yh} (hI : Plain I) {s : St} {x y : Int} : ∃ v s', yJ Tryz.prog I 146 #[.int .i64 x, .int .i64 y] s v s' ∧ (v = .bool (decide (x < y)) ∧ s' = s) := by
 refine yf 2 (hI 146 (by decide) (by decide)) Tryz.func146 rfl fb146 rfl ?_
 refine zf (za rfl (zh (zb (zf (za rfl (ze rfl (za rfl (zx rfl fc200 rfl ?_))))))))
 obtain ⟨_, s9, hr, rfl, hs9⟩ := nanA_ok (s := s) hI
 rw [hs9] at hr
 refine ⟨_, _, hr, ?_⟩
 clear hr
 refine za rfl (zi rfl (zc rfl (zc rfl (zc rfl (za rfl (z6 rfl (za rfl (zi rfl (za rfl (ze rfl (za rfl (ze rfl (za rfl (ye rfl rfl (fun h => ?_) (fun h => ?_)))))))))))))))
 ·refine za rfl (zv rfl rfl (za rfl (zt rfl (zb (zr (zm (zN (⟨congrArg Value.bool ?_, rfl⟩))))))))
  symm
  (rw [decide_eq_true_eq]; exact h)
 refine za rfl (zv rfl rfl (za rfl (zt rfl (zb (zr (zm (zN (⟨congrArg Value.bool ?_, rfl⟩))))))))
 symm
 (rw [decide_eq_false_iff_not]; exact h)
set_option maxHeartbeats 4000000 in
set_option maxRecDepth 10000 in
theorem setF_ok {I : yh} (hI : Plain I) {s : St} {x : Int} : ∃ v s', yJ Tryz.prog I 102 #[.int .i64 x] s v s' ∧ (v = .bool (setB x) ∧ s' = s) := by
 refine yf 1 (hI 102 (by decide) (by decide)) Tryz.func102 rfl fb102 rfl ?_
 refine zf (za rfl (zh (zb (zf (za rfl (ze rfl (za rfl (ye rfl rfl (fun h => ?_) (fun h => ?_)))))))))
 ·refine za rfl (zi rfl (zc rfl (zc rfl (za rfl (zB rfl (za rfl (zt rfl (zb (zr (zm (zN (⟨congrArg Value.bool ?_, rfl⟩))))))))))))
  unfold setB
  simp [*]
  try omega
 refine za rfl (zi rfl (za rfl (ze rfl (za rfl (qN rfl rfl (fun h => ?_) (fun h => ?_))))))
 ·refine za rfl (zv rfl rfl (za rfl (zt rfl (zb (zr (zm (zN (⟨congrArg Value.bool ?_, rfl⟩))))))))
  unfold setB
  simp [*]
  try omega
 refine za rfl (zv rfl rfl (za rfl (zt rfl (zb (zr (zm (zN (⟨congrArg Value.bool ?_, rfl⟩))))))))
 unfold setB
 simp [*]
 try omega
set_option maxHeartbeats 4000000 in
set_option maxRecDepth 10000 in
theorem numF_ok {I : yh} (hI : Plain I) {s : St} {x : Int} : ∃ v s', yJ Tryz.prog I 104 #[.int .i64 x] s v s' ∧ (v = .bool (numB x) ∧ s' = s) := by
 refine yf 1 (hI 104 (by decide) (by decide)) Tryz.func104 rfl fb104 rfl ?_
 refine zf (za rfl (zh (zb (zf (za rfl (ze rfl (za rfl (ye rfl rfl (fun h => ?_) (fun h => ?_)))))))))
 ·refine za rfl (zi rfl (zc rfl (zc rfl (za rfl (zB rfl (za rfl (zt rfl (zb (zr (zm (zN (⟨congrArg Value.bool ?_, rfl⟩))))))))))))
  unfold numB
  simp [*]
  try omega
 refine za rfl (zi rfl (za rfl (ze rfl (za rfl (yy rfl rfl (fun h => ?_) (fun h => ?_))))))
 ·refine za rfl (zv rfl rfl (za rfl (zt rfl (zb (zr (zm (zN (⟨congrArg Value.bool ?_, rfl⟩))))))))
  unfold numB
  simp [*]
  try omega
 refine za rfl (zv rfl rfl (za rfl (zt rfl (zb (zr (zm (zN (⟨congrArg Value.bool ?_, rfl⟩))))))))
 unfold numB
 simp [*]
 try omega
set_option maxHeartbeats 4000000 in
set_option maxRecDepth 10000 in
theorem setIndex_ok {I : yh} (hI : Plain I) {s : St} {v : Value} {l : List Int} (hl : Sl s 23 1 v (l.map dc)) (hlen : l.length ≤ 1000000) : ∃ v' s', yJ Tryz.prog I 156 #[v, .func (.func 102) #[] #[]] s v' s' ∧ (v' = .int .i64 (findP setB 0 l) ∧ s' = s) := by
 obtain ⟨a, len, cap, rfl, hn⟩ := hl.isSlice
 rw [List.length_map] at hn
 subst hn
 refine yf 2 (hI 156 (by decide) (by decide)) Tryz.func156 rfl fb156 rfl ?_
 refine zf (za rfl (zh (zb (zy (zf (za rfl (zk rfl (za rfl (zZ qd rfl rfl rfl (za rfl (ql (zb (zH (yu (fun k F s1 => ∃ (G : FF) (i : Nat), F = lay G [(0, .slice a l.length cap), (1, .func (.func 102) #[] #[]), (7, .int .i64 (l.length : Int)), (8, .int .i64 (i : Int))] ∧ s1 = s ∧ i ≤ l.length ∧ k = l.length - i ∧ findP setB 0 l = findP setB i (l.drop i)) ?_ l.length _ _ ?_))))))))))))))
 rotate_left
 ·exact ⟨_, 0, yb ⟨rfl, rfl, rfl, rfl, trivial⟩, rfl, by omega, by omega, rfl⟩
 rintro k F s1 ⟨G, i, rfl, rfl, hi, rfl, hn⟩
 refine zf (za rfl (ye rfl rfl (fun h => ?_) (fun h => ?_)))
 ·refine zb (zy (zq rfl (zD (zj (zy (zH (zf (za rfl (ze rfl (za rfl (zl rfl (zb (zf ?_)))))))))))))
  refine za rfl (xk rfl (za rfl (zk rfl (za rfl (ze rfl ?_)))))
  obtain ⟨b, off, c, rfl, hg, hb, hc⟩ := hl.atD (i := (i : Int)) (k := i) rfl (by omega)
  refine za rfl (zA xU rfl rfl (by omega) (by omega) (za rfl (zn ys rfl hg hc (za rfl (zx rfl fc102 rfl ?_)))))
  obtain ⟨_, _, hr, rfl, rfl⟩ := setF_ok (s := _) (x := l.getD i 0) hI
  refine ⟨_, _, hr, ?_⟩
  clear hr
  cases hb2 : setB (l.getD i 0)
  ·refine zb (zw rfl (zD (zK (zj (zC (za rfl (zW rfl rfl (by unfold zV; omega) (za rfl (ze rfl (zb (zI (⟨l.length - (i + 1), by omega, _, i + 1, yb ⟨rfl, rfl, rfl, rfl, trivial⟩, rfl, by omega, rfl, ?_⟩))))))))))))
   rw [hn, yw 0 (show i < l.length by omega), findP, if_neg (by rw [hb2]; simp)]
  refine zb (zq rfl (zf (za rfl (ze rfl (za rfl (zl rfl (zb (zr (zu (zo (zL (zu (zo ?_)))))))))))))
  refine zm (zN (⟨congrArg (Value.int .i64) ?_, rfl⟩))
  rw [hn, yw 0 (show i < l.length by omega), findP, if_pos hb2]
 refine zb (zy (zw rfl (yc (zQ (ya (zY (zj (zf (za rfl (zh (zb (zr ?_))))))))))))
 refine zm (zN (⟨congrArg (Value.int .i64) ?_, rfl⟩))
 rw [hn, List.drop_eq_nil_of_le (by omega)]
 rfl
set_option maxHeartbeats 4000000 in
set_option maxRecDepth 10000 in
theorem setAny_ok {I : yh} (hI : Plain I) {s : St} {v : Value} {l : List Int} (hl : Sl s 23 1 v (l.map dc)) (hlen : l.length ≤ 1000000) : ∃ v' s', yJ Tryz.prog I 101 #[v, .func (.func 102) #[] #[]] s v' s' ∧ (v' = .bool (l.any setB) ∧ s' = s) := by
 refine yf 2 (hI 101 (by decide) (by decide)) Tryz.func101 rfl fb101 rfl ?_
 refine zf (za rfl (zh (zb (zf (za rfl (xy (za rfl (xk rfl (za rfl (zx rfl fc156 rfl ?_))))))))))
 obtain ⟨_, s9, hr, rfl, hs9⟩ := setIndex_ok hI hl hlen
 rw [hs9] at hr
 refine ⟨_, _, hr, ?_⟩
 clear hr
 refine za rfl (op_geq' rfl rfl (za rfl (zt rfl (zb (zr (zm (zN ?_)))))))
 exact ⟨congrArg Value.bool (findP_any setB l 0), rfl⟩
set_option maxHeartbeats 4000000 in
set_option maxRecDepth 10000 in
theorem numIndex_ok {I : yh} (hI : Plain I) {s : St} {v : Value} {l : List Int} (hl : Sl s 3 1 v (l.map dc)) (hlen : l.length ≤ 1000000) : ∃ v' s', yJ Tryz.prog I 157 #[v, .func (.func 104) #[] #[]] s v' s' ∧ (v' = .int .i64 (findP numB 0 l) ∧ s' = s) := by
 obtain ⟨a, len, cap, rfl, hn⟩ := hl.isSlice
 rw [List.length_map] at hn
 subst hn
 refine yf 2 (hI 157 (by decide) (by decide)) Tryz.func157 rfl fb157 rfl ?_
 refine zf (za rfl (zh (zb (zy (zf (za rfl (zk rfl (za rfl (zZ xt rfl rfl rfl (za rfl (ql (zb (zH (yu (fun k F s1 => ∃ (G : FF) (i : Nat), F = lay G [(0, .slice a l.length cap), (1, .func (.func 104) #[] #[]), (7, .int .i64 (l.length : Int)), (8, .int .i64 (i : Int))] ∧ s1 = s ∧ i ≤ l.length ∧ k = l.length - i ∧ findP numB 0 l = findP numB i (l.drop i)) ?_ l.length _ _ ?_))))))))))))))
 rotate_left
 ·exact ⟨_, 0, yb ⟨rfl, rfl, rfl, rfl, trivial⟩, rfl, by omega, by omega, rfl⟩
 rintro k F s1 ⟨G, i, rfl, rfl, hi, rfl, hn⟩
 refine zf (za rfl (ye rfl rfl (fun h => ?_) (fun h => ?_)))
 ·refine zb (zy (zq rfl (zD (zj (zy (zH (zf (za rfl (ze rfl (za rfl (zl rfl (zb (zf ?_)))))))))))))
  refine za rfl (xk rfl (za rfl (zk rfl (za rfl (ze rfl ?_)))))
  obtain ⟨b, off, c, rfl, hg, hb, hc⟩ := hl.atD (i := (i : Int)) (k := i) rfl (by omega)
  refine za rfl (zA xP rfl rfl (by omega) (by omega) (za rfl (zn sh3 rfl hg hc (za rfl (zx rfl fc104 rfl ?_)))))
  obtain ⟨_, _, hr, rfl, rfl⟩ := numF_ok (s := _) (x := l.getD i 0) hI
  refine ⟨_, _, hr, ?_⟩
  clear hr
  cases hb2 : numB (l.getD i 0)
  ·refine zb (zw rfl (zD (zK (zj (zC (za rfl (zW rfl rfl (by unfold zV; omega) (za rfl (ze rfl (zb (zI (⟨l.length - (i + 1), by omega, _, i + 1, yb ⟨rfl, rfl, rfl, rfl, trivial⟩, rfl, by omega, rfl, ?_⟩))))))))))))
   rw [hn, yw 0 (show i < l.length by omega), findP, if_neg (by rw [hb2]; simp)]
  refine zb (zq rfl (zf (za rfl (ze rfl (za rfl (zl rfl (zb (zr (zu (zo (zL (zu (zo ?_)))))))))))))
  refine zm (zN (⟨congrArg (Value.int .i64) ?_, rfl⟩))
  rw [hn, yw 0 (show i < l.length by omega), findP, if_pos hb2]
 refine zb (zy (zw rfl (yc (zQ (ya (zY (zj (zf (za rfl (zh (zb (zr ?_))))))))))))
 refine zm (zN (⟨congrArg (Value.int .i64) ?_, rfl⟩))
 rw [hn, List.drop_eq_nil_of_le (by omega)]
 rfl
set_option maxHeartbeats 4000000 in
set_option maxRecDepth 10000 in
theorem numAny_ok {I : yh} (hI : Plain I) {s : St} {v : Value} {l : List Int} (hl : Sl s 3 1 v (l.map dc)) (hlen : l.length ≤ 1000000) : ∃ v' s', yJ Tryz.prog I 103 #[v, .func (.func 104) #[] #[]] s v' s' ∧ (v' = .bool (l.any numB) ∧ s' = s) := by
 refine yf 2 (hI 103 (by decide) (by decide)) Tryz.func103 rfl fb103 rfl ?_
 refine zf (za rfl (zh (zb (zf (za rfl (xy (za rfl (xk rfl (za rfl (zx rfl fc157 rfl ?_))))))))))
 obtain ⟨_, s9, hr, rfl, hs9⟩ := numIndex_ok hI hl hlen
 rw [hs9] at hr
 refine ⟨_, _, hr, ?_⟩
 clear hr
 refine za rfl (op_geq' rfl rfl (za rfl (zt rfl (zb (zr (zm (zN ?_)))))))
 exact ⟨congrArg Value.bool (findP_any numB l 0), rfl⟩
set_option maxHeartbeats 4000000 in
set_option maxRecDepth 10000 in
theorem isSorted_ok {I : yh} (hI : Plain I) {s : St} {v : Value} {l : List Int} (hl : Sl s 23 1 v (l.map dc)) (hlen : l.length ≤ 1000000) (hroom : s.next ≤ zp) : ∃ v' s', yJ Tryz.prog I 96 #[v] s v' s' ∧ (∃ b, v' = .bool b ∧ (b = true ↔ Srt l) ∧ s' = s) := by
 obtain ⟨a, len, cap, rfl, hn⟩ := hl.isSlice
 rw [List.length_map] at hn
 subst hn
 refine yf 1 (hI 96 (by decide) (by decide)) Tryz.func96 rfl fb96 rfl ?_
 refine zf (za rfl (zh (zb (zy (zf (za rfl (zk rfl (za rfl (zZ qd rfl rfl rfl (za rfl (xo rfl rfl (by unfold zV; omega) (za rfl (zl rfl (zb (zH (yu (fun k F s1 => ∃ (G : FF) (m : Nat), F = lay G [(0, .slice a l.length cap), (3, .int .i64 ((m : Int) - 1))] ∧ s1 = s ∧ m ≤ l.length ∧ k = m ∧ ∀ j, m ≤ j + 1 → j + 1 < l.length → l.getD j 0 ≤ l.getD (j + 1) 0) ?_ l.length _ _ ?_))))))))))))))))
 rotate_left
 ·exact ⟨_, l.length, yb ⟨rfl, rfl, trivial⟩, rfl, by omega, rfl, (by intro j h1 h2; omega)⟩
 rintro k F s1 ⟨G, m, rfl, rfl, hmx, rfl, hs⟩
 refine zy (zf (za rfl (ze rfl (za rfl (yy rfl rfl (fun h => ?_) (fun h => ?_))))))
 ·refine zb (zq rfl (zD (zj (zy (zH (yn [⟨0, 0, .light, [8]⟩, ⟨1, 0, .light, [8]⟩, ⟨2, 3, .light, [8]⟩, ⟨3, 7, .light, [8]⟩, ⟨4, 0, .light, [3]⟩, ⟨5, 0, .light, [3]⟩, ⟨6, 32, .light, [3]⟩, ⟨7, 112, .light, [3]⟩, ⟨8, 240, .light, [3]⟩, ⟨9, 511, .whole, []⟩] (by kernel_rfl) (by kernel_rfl) ?_))))))
  obtain ⟨b1, oo1, c1, rfl, hg1, hb1, hc1⟩ := hl.atD (i := (k : Int) - 1) (k := k - 1) (by omega) (by omega)
  obtain ⟨_, _, c2, he2, hg2, hb2, hc2⟩ := hl.atD (i := (k : Int) - 1 - 1) (k := k - 2) (by omega) (by omega)
  cases he2
  refine zd rfl rfl (zk rfl ⟨rfl, (zd rfl rfl (ze rfl ⟨rfl, (zd rfl rfl (zA xU rfl rfl (by omega) (by omega) ⟨rfl, (zG rfl rfl ys rfl hg1 (Nat.lt_of_lt_of_le hb1 hroom) hc1 (zd rfl rfl (zk rfl ⟨rfl, (zd rfl rfl (ze rfl ⟨rfl, (zd rfl rfl (xo rfl rfl (by unfold zV; omega) ⟨rfl, (zd rfl rfl (zA xU rfl rfl (by omega) (by omega) ⟨rfl, (zG rfl rfl ys rfl hg2 (Nat.lt_of_lt_of_le hb1 hroom) hc2 (zX rfl rfl (zx rfl fc146 rfl ?_)))⟩))⟩))⟩))⟩)))⟩))⟩))⟩)
  obtain ⟨_, _, hr, rfl, rfl⟩ := less_ok (s := _) (x := l.getD (k - 1) 0) (y := l.getD (k - 2) 0) hI
  refine ⟨_, _, hr, ?_⟩
  clear hr
  cases hb3 : decide (l.getD (k - 1) 0 < l.getD (k - 2) 0)
  ·refine zR (zw rfl (zD (zK (zj (zC (za rfl (ze rfl (za rfl (xo rfl rfl (by unfold zV; omega) (za rfl (zl rfl (zb (zI (⟨k - 1, by omega, _, k - 1, yb ⟨rfl, (congrArg (Value.int .i64) (by omega)), trivial⟩, rfl, by omega, rfl, ?_⟩))))))))))))))
   intro j h1 h2
   have hb4 := of_decide_eq_false hb3
   by_cases hj : j + 1 = k - 1
   ·obtain rfl : j = k - 2 := by omega
    rw [show k - 2 + 1 = k - 1 by omega]
    omega
   ·exact hs j (by omega) h2
  refine zR (zq rfl (zf (za rfl (zh (zb (zr (zu (zo (zL (zu (zo (zm ?_))))))))))))
  refine zN (⟨false, rfl, ⟨fun h => (by cases h), fun h => ?_⟩, rfl⟩)
  have := h (k - 2) (by omega)
  have hb4 := of_decide_eq_true hb3
  rw [show k - 2 + 1 = k - 1 by omega] at this
  omega
 refine zb (zw rfl (yc (zQ (ya (zY (zj (zf (za rfl (zh (zb (zr (zm ?_))))))))))))
 refine zN ?_
 exact ⟨true, rfl, ⟨fun _ j hj => hs j (by omega) hj, fun _ => rfl⟩, rfl⟩
end Go.Proofs.YtdejleegamcioaaGreat
namespace Go.Proofs.YtdejleegamcioaaGreat
open Go Go.M
theorem fb98 : yx Tryz.f98 (Tryz.f98.body.getD .skip) 1 = true := by kernel_rfl
theorem fb100 : yx Tryz.f100 (Tryz.f100.body.getD .skip) 2 = true := by kernel_rfl
theorem fc155 : yp Tryz.prog 155 = true := by kernel_rfl
theorem un173 : Tryz.prog.underlying 173 = some (.int .u64) := by kernel_rfl
theorem un3 : Tryz.prog.underlying 3 = some (.int .i64) := by kernel_rfl
end Go.Proofs.YtdejleegamcioaaGreat
namespace Go.M
section
variable {P : Program} {I : yh} {F : FF} {s : St} {Q : FF → St → Prop} {d : Option Tmp} {ty : TypeId} {pos : String} {af : Array Edge} {g : Option (Nat × Bool)}
theorem op_isNil {t e : TypeId} {x y : Operand} {yt : TypeId} {a : Option Addr} {n c : Nat} (hu : P.underlying t = some (.slice e)) (hx : zS F x = .slice a n c) (hy : zS F y = .slice none 0 0) (k : Q (upd F d (.bool a.isNone)) s) : OpW P I ⟨d, .binOp .eql t x y yt, ty, pos, af, g⟩ F s Q := by
 refine ym (v := .bool a.isNone) (s' := s) ?_ k
 cases a <;> simp only [zT, qq, hx, hy, eqM, hu, eqV] <;> rfl
theorem op_convertU {src dst : TypeId} {x : Operand} {kd : IntKind} {a : Int} {u : TypeDesc} (hu : P.underlying src = some u) (hd : P.underlying dst = some (.int .u64)) (hx : zS F x = .int kd a) (h0 : 0 ≤ a) (h1 : a < 18446744073709551616) (k : Q (upd F d (.int .u64 a)) s) : OpW P I ⟨d, .convert src dst x, ty, pos, af, g⟩ F s Q := by
 refine ym (v := .int .u64 a) (s' := s) ?_ k
 have hw : IntKind.u64.wrap a = a := by
  unfold IntKind.wrap
  simp only [show IntKind.u64.bits = 64 from rfl, show IntKind.u64.signed = false from rfl, Bool.false_and]
  simp
  omega
 simp only [zT, convertM, hu, hd, hx, hw]
 cases u <;> rfl
theorem op_halfU {t : TypeId} {x y : Operand} {yt : TypeId} {a : Int} (hx : zS F x = .int .u64 a) (hy : zS F y = .int .u64 1) (k : Q (upd F d (.int .u64 (a.fdiv 2))) s) : OpW P I ⟨d, .binOp .shr t x y yt, ty, pos, af, g⟩ F s Q := by
 refine ym (v := .int .u64 (a.fdiv 2)) (s' := s) ?_ k
 simp only [zT, qq, hx, hy, qv, Go.binOp, Op.shift]
 rw [if_neg (by decide)]
 rfl
end
end Go.M
namespace Go.Proofs.YtdejleegamcioaaGreat
open Go Go.M
theorem inc_getD {l : List Int} (h : Inc l) {i j : Nat} (hij : i ≤ j) (hj : j < l.length) : l.getD i 0 ≤ l.getD j 0 := by
 have e1 : l.getD i 0 = l[i] := by simp [List.getD_eq_getElem?_getD, List.getElem?_eq_getElem (show i < l.length by omega)]
 have e2 : l.getD j 0 = l[j] := by simp [List.getD_eq_getElem?_getD, List.getElem?_eq_getElem hj]
 rw [e1, e2]
 rcases Nat.lt_or_eq_of_le hij with h2 | h2
 ·exact Int.le_of_lt (List.pairwise_iff_getElem.mp h i j (by omega) hj h2)
 ·subst h2; exact Int.le_refl _
theorem ints_plain (l : List Int) : (yq l).all Go.M.plainCell = true := by
 induction l with
 | nil => rfl
 | cons x l ih => simp only [yq, List.map_cons, List.all_cons] at ih ⊢; rw [ih]; rfl
theorem Sl.elemsI {s : St} {e : TypeId} {v : Value} {l : List Int} (h : Sl s e 1 v (l.map dc)) : qW s 1 v l.length (yq l) := by
 have := Sl.elems h dcs_len (by decide)
 rwa [List.length_map, ← ints_flat] at this
set_option maxHeartbeats 4000000 in
set_option maxRecDepth 10000 in
theorem clone_ok {I : yh} (hI : Plain I) {s : St} (hf : Fine s) {v : Value} {l : List Int} (hl : Sl s 23 1 v (l.map dc)) (hlen : l.length ≤ 1000000) (hroom : s.next + 2 ≤ zp) :
  ∃ v' s', yJ Tryz.prog I 98 #[v] s v' s' ∧ (∃ (D : Hp') (so : Slc), v' = so.v ∧ HL [] s s' D 2 ∧ (so.n = 0 ∧ l = [] ∨ ∃ b cap, so = ⟨some ⟨b, 0, none⟩, l.length, cap⟩ ∧ D = [(b, .cells (yq l) 23)] ∧ l.length ≤ cap / 2)) := by
 have H := hf.hl
 obtain ⟨a, len, cap, rfl, hn⟩ := hl.isSlice
 rw [List.length_map] at hn
 subst hn
 refine yf 1 (hI 98 (by decide) (by decide)) Tryz.func98 rfl fb98 rfl ?_
 refine zf (za rfl (zh (zb (zy (zf (za rfl (zk rfl (za rfl (op_isNil qd rfl rfl ?_)))))))))
 cases hz : a.isNone
 ·refine zb (zw rfl (zD (zj ?_)))
  by_cases hl0 : l.length ≠ 0
  ·refine zf (za rfl (z8 (c := []) H qs rfl rfl (by omega) (fun b5 s1 H => ?_)))
   refine za rfl (zk rfl (za rfl (op_append00 H qs qd rfl rfl rfl (hl.kept H).elemsI (by omega) (ints_plain l) (by simp [yq]) (by omega) (by omega) (fun b7 s7 H => ?_))))
   refine za rfl (zO rfl (zb (zr (zm (zN (⟨_, ⟨some ⟨b7, 0, none⟩, l.length, 2 * l.length + 1⟩, rfl, H, .inr ⟨b7, _, rfl, rfl, by omega⟩⟩))))))
  refine zf (za rfl (z8 (c := []) H qs rfl rfl (by omega) (fun b5 s2 H => ?_)))
  refine za rfl (zk rfl (za rfl (qZ H qs qd rfl rfl rfl (by have hl1 : l.length = 0 := (by omega); have := (hl.kept H).elemsI; rw [hl1, List.length_eq_zero_iff.mp hl1] at this; rw [hl1]; exact this) (by decide) (by decide) (by omega) (fun s7 H => ?_))))
  refine za rfl (zO rfl (zb (zr (zm (zN (⟨_, ⟨_, 0, _⟩, rfl, H.up (by omega), .inl ⟨rfl, List.length_eq_zero_iff.mp (by omega)⟩⟩))))))
 refine zb (zq rfl (zf (za rfl (zh (zb (zr (zo (zm (zN ?_)))))))))
 obtain rfl : a = none := by cases a <;> simp_all
 have h0 : l = [] := by
  cases hl with
  | nil c hv hl2 => simpa using hl2
  | block b off cap c hv => cases hv
 exact ⟨[], ⟨none, 0, 0⟩, rfl, H.up (by omega), .inl ⟨rfl, h0⟩⟩
set_option maxHeartbeats 4000000 in
set_option maxRecDepth 10000 in
theorem binSearch_ok {I : yh} (hI : Plain I) {s : St} {v : Value} {l : List Int} {x : Int} (hl : Sl s 23 1 v (l.map dc)) (hinc : Inc l) (hlen : l.length ≤ 1000000) :
  ∃ v' s', yJ Tryz.prog I 100 #[v, .int .i64 x] s v' s' ∧ (∃ (i : Nat) (b : Bool), v' = .tuple ⟨[.int .i64 (i : Int), .bool b]⟩ ∧ (b = true → i < l.length ∧ l.getD i 0 = x) ∧ (b = false → x ∉ l) ∧ s' = s) := by
 obtain ⟨a, len, cap, rfl, hn⟩ := hl.isSlice
 rw [List.length_map] at hn
 subst hn
 refine yf 2 (hI 100 (by decide) (by decide)) Tryz.func100 rfl fb100 rfl ?_
 refine zf (za rfl (zh (za rfl (zh (zb (zf (za rfl (zk rfl (za rfl (zZ qd rfl rfl rfl (za rfl (zl rfl (zb (zf (za rfl (ze rfl (za rfl (zh ?_))))))))))))))))))
 refine za rfl (zl rfl (zb (zy (zH (yu (fun k F s1 => ∃ (G : FF) (lo hi : Nat), F = lay G [(0, .slice a l.length cap), (1, .int .i64 x), (6, .int .i64 (l.length : Int)), (7, .int .i64 (lo : Int)), (8, .int .i64 (hi : Int))] ∧ s1 = s ∧ lo ≤ hi ∧ hi ≤ l.length ∧ (∀ j, j < lo → l.getD j 0 < x) ∧ (∀ j, hi ≤ j → j < l.length → x ≤ l.getD j 0) ∧ k = hi - lo) ?_ l.length _ _ ?_)))))
 rotate_left
 ·exact ⟨_, 0, l.length, yb ⟨rfl, rfl, rfl, rfl, rfl, trivial⟩, rfl, by omega, by omega, (by intro j hj; omega), (by intro j h1 h2; omega), by omega⟩
 rintro k F s1 ⟨G, lo, hi, rfl, rfl, hlh, hhl, hlo, hhi, rfl⟩
 refine zy (zf (za rfl (ze rfl (za rfl (ze rfl (za rfl (ye rfl rfl (fun h => ?_) (fun h => ?_))))))))
 ·refine zb (zq rfl (zD (zj (zH (zf (za rfl (ze rfl (za rfl (ze rfl (za rfl (zW rfl rfl (by unfold zV; omega) (za rfl (op_convertU un3 un173 rfl (by omega) (by omega) (za rfl (op_halfU rfl rfl ?_)))))))))))))))
  rw [show ((lo : Int) + (hi : Int)).fdiv 2 = (((lo + hi) / 2 : Nat) : Int) by rw [Int.fdiv_eq_ediv_of_nonneg _ (by omega)]; omega]
  refine za rfl (op_convert un173 un3 rfl (by unfold zV; omega) (za rfl (zl rfl (zb (zf (za rfl (zk rfl (za rfl (ze rfl ?_)))))))))
  obtain ⟨b, off, c, rfl, hg, hb, hc⟩ := hl.atD (i := (((lo + hi) / 2 : Nat) : Int)) (k := (lo + hi) / 2) rfl (by omega)
  refine za rfl (zA xU rfl rfl (by omega) (by omega) (za rfl (zn ys rfl hg hc (za rfl (ze rfl (za rfl (zx rfl fc146 rfl ?_)))))))
  obtain ⟨_, _, hr, rfl, rfl⟩ := less_ok (s := _) (x := l.getD ((lo + hi) / 2) 0) (y := x) hI
  refine ⟨_, _, hr, ?_⟩
  clear hr
  cases hb3 : decide (l.getD ((lo + hi) / 2) 0 < x)
  ·refine zb (zw rfl (zC (za rfl (ze rfl (za rfl (zl rfl (zb (zK (zI (⟨(lo + hi) / 2 - lo, by omega, _, lo, (lo + hi) / 2, yb ⟨rfl, rfl, rfl, rfl, rfl, trivial⟩, rfl, by omega, by omega, hlo, ?_, rfl⟩))))))))))
   intro j hj hj2
   have := inc_getD hinc (i := (lo + hi) / 2) (j := j) (by omega) (by omega)
   have := of_decide_eq_false hb3
   omega
  refine zb (zq rfl (zC (za rfl (ze rfl (za rfl (zW rfl rfl (by unfold zV; omega) (za rfl (zl rfl (zb (zK (zI (⟨hi - ((lo + hi) / 2 + 1), by omega, _, (lo + hi) / 2 + 1, hi, yb ⟨rfl, rfl, rfl, rfl, rfl, trivial⟩, rfl, by omega, by omega, ?_, hhi, rfl⟩))))))))))))
  intro j hj
  have := inc_getD hinc (i := j) (j := (lo + hi) / 2) (by omega) (by omega)
  have := of_decide_eq_true hb3
  omega
 refine zb (zw rfl (yc (zQ (ya (zY (zj (zf (za rfl (ze rfl (za rfl (ze rfl (za rfl (ze rfl (za rfl (ye rfl rfl (fun h => ?_) (fun h => ?_))))))))))))))))
 ·refine za rfl (zi rfl (za rfl (zk rfl (za rfl (ze rfl ?_)))))
  obtain ⟨b, off, c, rfl, hg, hb, hc⟩ := hl.atD (i := (lo : Int)) (k := lo) rfl (by omega)
  refine za rfl (zA xU rfl rfl (by omega) (by omega) (za rfl (zn ys rfl hg hc (za rfl (ze rfl (za rfl (yD rfl rfl (fun h => ?_) (fun h => ?_))))))))
  ·refine za rfl (zi rfl (zc rfl (zc rfl (zc rfl (zc rfl (zc rfl (zc rfl (zc rfl (zc rfl (zc rfl (za rfl (zB rfl (za rfl (zM rfl rfl ?_))))))))))))))
   refine za rfl (zl rfl (za rfl (zt rfl (zb (zr (zm (yE rfl rfl ?_)))))))
   have hll : lo = hi := by omega
   exact ⟨lo, true, rfl, (fun _ => ⟨by omega, h⟩), (fun h => by cases h), rfl⟩
  refine za rfl (zi rfl (za rfl (zk rfl (za rfl (ze rfl (za rfl (zA xU rfl rfl (by omega) (by omega) (za rfl (zn ys rfl hg hc (za rfl (zx rfl fc155 rfl ?_)))))))))))
  obtain ⟨_, _, hr, rfl, rfl⟩ := nanB_ok (s := _) hI
  refine ⟨_, _, hr, ?_⟩
  clear hr
  refine za rfl (zi rfl (zc rfl (zc rfl (za rfl (z6 rfl (za rfl (zv rfl rfl (za rfl (zM rfl rfl (za rfl (zl rfl (za rfl (zt rfl (zb (zr (zm (yE rfl rfl ?_)))))))))))))))))
  have hll : lo = hi := by omega
  refine ⟨lo, false, rfl, (fun h => by cases h), (fun _ hx => ?_), rfl⟩
  obtain ⟨j, hj, he⟩ := List.mem_iff_getElem.mp hx
  have e1 : l.getD j 0 = x := by rw [← he]; simp [List.getD_eq_getElem?_getD, List.getElem?_eq_getElem hj]
  rcases Nat.lt_or_ge j lo with h2 | h2
  ·have := hlo j h2; omega
  ·have h3 := hhi j (by omega) hj
   first
    | omega
    | (have h4 := inc_getD hinc (i := lo) (j := j) (by omega) hj; have h5 := hhi lo (by omega) (by omega); apply h; omega)
 refine za rfl (zi rfl (zc rfl (zc rfl (zc rfl (zc rfl (zc rfl (zc rfl (zc rfl (zc rfl (zc rfl (zc rfl (zc rfl ?_))))))))))))
 refine zc rfl (zc rfl (zc rfl (zc rfl (zc rfl (zc rfl (za rfl (z6 rfl (za rfl (zl rfl (za rfl (zt rfl (zb (zr (zm ?_))))))))))))))
 refine yE rfl rfl ?_
 have hll : lo = hi := by omega
 refine ⟨lo, false, rfl, (fun h => by cases h), (fun _ hx => ?_), rfl⟩
 obtain ⟨j, hj, he⟩ := List.mem_iff_getElem.mp hx
 have e1 : l.getD j 0 = x := by rw [← he]; simp [List.getD_eq_getElem?_getD, List.getElem?_eq_getElem hj]
 rcases Nat.lt_or_ge j lo with h2 | h2
 ·have := hlo j h2; omega
 ·have h3 := hhi j (by omega) hj
  first
   | omega
   | (have h4 := inc_getD hinc (i := lo) (j := j) (by omega) hj; have h5 := hhi lo (by omega) (by omega); apply h; omega)
end Go.Proofs.YtdejleegamcioaaGreat
