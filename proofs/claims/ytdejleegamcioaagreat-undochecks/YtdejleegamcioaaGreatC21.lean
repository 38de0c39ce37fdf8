/- The reference of cleanings: the least numbers. -/
import Derived.Test.YtdejleegamcioaaGreatC20
namespace Go.Proofs.YtdejleegamcioaaGreat
open Go Go.M
theorem fb19 : yx Tryz.f19 (Tryz.f19.body.getD .skip) 4 = true := by kernel_rfl
theorem fc46 : yp Tryz.prog 46 = true := by kernel_rfl
theorem fc54 : yp Tryz.prog 54 = true := by kernel_rfl
theorem xj : yF Tryz.prog 40 = some (some 2) := by kernel_rfl
theorem sz31 : xD Tryz.prog 31 = some 1 := by kernel_rfl
theorem sz40 : xD Tryz.prog 40 = some 2 := by kernel_rfl
theorem zf40 : zeroF Tryz.prog 40 = some [.slice none 0 0, .slice none 0 0] := by kernel_rfl
theorem _root_.Go.M.HL.back {W : List Nat} {s0 s s' : St} {L L0 : Hp'} {n n0 : Nat} (H0 : HL W s0 s L0 n0) (H : HL W s0 s' L n) : HL W s0 { next := s'.next, bar := s.bar, prot := s.prot, heap := s'.heap } L n := by
 have h1 : s'.bar = s.bar := H.bar.trans H0.bar.symm
 have h2 : s'.prot = s.prot := H.prot.trans H0.prot.symm
 cases s'
 simp only at h1 h2
 subst h1
 subst h2
 exact H
section
variable (js : List (Int × Int)) (bad : Int) (may : List Sp) (S : Int)
def numZ (q : Nat) : Int := if yj S bad 0 js = true then (may.take q).foldl (stepN (fun q => (bb js bad may q).1) S) 65536 else 0
variable {js bad may S}
theorem foldN_le {v : Int → Int} {S : Int} : ∀ {l : List Sp} {n : Int}, l.foldl (stepN v S) n ≤ n
 | [], _ => by simp
 | m :: l, n => by
  rw [List.foldl_cons]
  refine Int.le_trans foldN_le ?_
  unfold stepN
  split
  ·omega
  ·split <;> omega
theorem numZ_facts {q : Nat} : (yj S bad 0 js = true → 0 < numZ js bad may S q) ∧ (yj S bad 0 js = false → numZ js bad may S q = 0) ∧ 0 ≤ numZ js bad may S q ∧ numZ js bad may S q ≤ 65536 := by
 unfold numZ
 by_cases h : yj S bad 0 js = true
 ·rw [if_pos h]
  have h1 := foldN_pos (v := fun q => (bb js bad may q).1) (S := S) (l := may.take q) (n := 65536) (fun x => (yY x).1) (by omega)
  have h2 := foldN_le (v := fun q => (bb js bad may q).1) (S := S) (l := may.take q) (n := 65536)
  exact ⟨fun _ => h1, (fun h3 => by rw [h] at h3; cases h3), by omega, h2⟩
 ·rw [if_neg h]
  exact ⟨fun h2 => absurd h2 h, fun _ => rfl, by omega, by omega⟩
theorem numZ_succ {q : Nat} (hq : q < may.length) (hn : yj S bad 0 js = true) : numZ js bad may S (q + 1) = stepN (fun q => (bb js bad may q).1) S (numZ js bad may S q) (may.getD q default) := by
 unfold numZ
 rw [if_pos hn, if_pos hn, List.take_succ_eq_append_getElem hq, List.foldl_append]
 simp [List.getD_eq_getElem?_getD, List.getElem?_eq_getElem hq]
theorem numZ_all (hm : yZ may) (h0 : 0 < S) : numZ js bad may S may.length = (bb js bad may S).1 := by
 unfold numZ
 rw [List.take_length, bb_num hm h0]
theorem numZ_none (hm : yZ may) (h0 : 0 < S) (hn : yj S bad 0 js = false) {q : Nat} : numZ js bad may S q = (bb js bad may S).1 := by
 unfold numZ
 rw [bb_num hm h0, if_neg (by rw [hn]; simp), if_neg (by rw [hn]; simp)]
theorem inc_take {l : List Int} (h : Inc l) {i : Nat} (hi : i < l.length) {x : Int} (hx : x ∈ l) (hlt : x < l.getD i 0) : x ∈ l.take i := by
 rw [← List.take_append_drop i l] at hx
 rcases List.mem_append.mp hx with hx | hx
 ·exact hx
 ·exfalso
  have h2 : Inc (l.drop i) := h.sublist (List.drop_sublist i l)
  rw [yw 0 hi] at hx h2
  rcases List.mem_cons.mp hx with hx | hx
  ·omega
  ·have := (List.pairwise_cons.mp h2).1 x hx
   omega
end
set_option maxHeartbeats 4000000 in
set_option maxRecDepth 10000 in
theorem numbers_ok {I : yh} (hI : Plain I) {s : St} (hf : Fine s) {w bad : Int} {vj vm : Value} {js : List (Int × Int)} {may : List Sp} (hJ : Sl s 30 2 vj (js.map jc)) (hM : Sl s 62 10 vm (may.map Sp.cells)) (hj : ∀ j ∈ js, kf j) (hjl : js.length ≤ 16) (hm : yZ may) (hml : may.length ≤ 15) (hw0 : 0 < w) (hw1 : w < 65536) (hroom : s.next + 1031030000000 ≤ zp) :
  ∃ v' s', yJ Tryz.prog I 19 #[.int .i64 w, vj, .int .i64 bad, vm] s v' s' ∧ (∃ (D : Hp') (p1 p2 : Slc) (ks : List Int), v' = .agg ⟨[p1.v, p2.v]⟩ ∧ HL [] s s' D 1031030000000 ∧ Inc ks ∧ (∀ k, k ∈ ks ↔ Rch js bad may w k) ∧ SlG D 23 1 p1.v (ks.map dc) ∧ SlG D 3 1 p2.v ((ks.map (fun q => (bb js bad may q).1)).map dc)) := by
 have H := hf.hl
 obtain ⟨ja, jn, jcp, rfl, hjn⟩ := hJ.isSlice
 rw [List.length_map] at hjn
 subst hjn
 obtain ⟨ma, mn, mcp, rfl, hmn⟩ := hM.isSlice
 rw [List.length_map] at hmn
 subst hmn
 refine yf 4 (hI 19 (by decide) (by decide)) Tryz.func19 rfl fb19 rfl ?_
 refine zf (za rfl (yi H zf40 (by omega) (fun b8 s1 H => ?_)))
 refine zb (zf (za rfl (ze rfl (za rfl (zk rfl (za rfl (ze rfl (za rfl (zk rfl (za rfl (zx rfl fc54 rfl ?_)))))))))))
 obtain ⟨_, s9, hr, Dk, ⟨ka, kn, kc⟩, ks, rfl, Hc, hkG, hinc, hks⟩ := reached_ok (w := w) (bad := bad) hI H.fine (hJ.kept H) (hM.kept H) hj hjl hm hml hw0 hw1 (by have := H.most; omega)
 refine ⟨_, _, hr, ?_⟩
 clear hr
 have H := H.callE Hc
 clear Hc
 try simp only [List.cons_append, List.nil_append, List.append_assoc] at H
 have hsn := hkG.slc
 rw [List.length_map] at hsn
 simp only at hsn
 subst hsn
 have hkl0 := rch_len hm hw0 hw1 hinc (fun x hx => (hks x).mp hx)
 have hk0 : 0 < ks.length := List.length_pos_of_mem ((hks w).mpr .self)
 obtain ⟨bk, ofk, _, rfl, _⟩ := (hkG.sl H (by intro p hp; (try simp only [List.mem_cons, List.mem_append, List.not_mem_nil, or_false] at hp ⊢); first | exact hp | simp only [hp, true_or, or_true])).atD (i := 0) (k := 0) rfl hk0
 refine za rfl (zO rfl (zb (zf (za rfl (yi H zf40 (by omega) (fun b10 s2 H => ?_))))))
 refine zb (zy ?_)
 obtain ⟨N1, hN1⟩ : ∃ N1, N1 = 0 + 1 + 1031020300000 + 1 := ⟨_, rfl⟩
 rw [← hN1] at H
 refine zf (za rfl (zh (zb (zH (yu (fun k F s1 => ∃ (G : FF) (i : Nat) (P1 P2 : Hp') (psa pla : Option Addr) (psc plc : Nat) (kt : List Int), F = lay G [(0, .int .i64 w), (1, .slice ja js.length jcp), (2, .int .i64 bad), (3, .slice ma may.length mcp), (8, ptr b8), (9, .slice (some ⟨bk, ofk, none⟩) ks.length kc), (10, ptr b10), (11, .int .i64 (i : Int))] ∧ HL [] s s1 ((b10, .cells [.slice psa kt.length psc, .slice pla (kt.map (fun q => (bb js bad may q).1)).length plc] 40) :: (b8, .cells [.slice none 0 0, .slice none 0 0] 40) :: (Dk ++ (P2 ++ P1))) (N1 + 60 * i) ∧ Own 23 1 P1 (.slice psa kt.length psc) (yq kt) kt.length ∧ Own 3 1 P2 (.slice pla (kt.map (fun q => (bb js bad may q).1)).length plc) (yq (kt.map (fun q => (bb js bad may q).1))) (kt.map (fun q => (bb js bad may q).1)).length ∧ kt = ks.take i ∧ kt.length = i ∧ i ≤ ks.length ∧ k = ks.length - i) ?_ ks.length _ _ ?_)))))
 rotate_left
 ·refine ⟨_, 0, [], [], none, none, 0, 0, [], yb ⟨rfl, rfl, rfl, rfl, rfl, rfl, rfl, rfl, trivial⟩, ?_, .nil, .nil, by simp, rfl, by omega, by omega⟩
  simp only [List.append_nil]
  exact H
 rintro k F s1 ⟨G, i, P1, P2, psa, pla, psc, plc, kt, rfl, H, ho1, ho2, hkt, hkl, hi, rfl⟩
 have hG1 := Own.dcs ho1
 have hG2 := Own.dcs ho2
 have hml2 : (kt.map (fun q => (bb js bad may q).1)).length = i := by rw [List.length_map]; exact hkl
 refine zy (zf (za rfl (ze rfl (za rfl (zk rfl (za rfl (zZ qd rfl rfl rfl (za rfl (ye rfl rfl (fun h => ?_) (fun h => ?_))))))))))
 ·refine zb (zq rfl (zD (zj (zy (zH (zf (za rfl (zh (zb (zy (zf (za rfl (zk rfl ?_)))))))))))))
  refine za rfl (ze rfl ?_)
  obtain ⟨_, _, ck, hek, hgk, hbk, hck⟩ := (hkG.sl H (by intro p hp; (try simp only [List.mem_cons, List.mem_append, List.not_mem_nil, or_false] at hp ⊢); first | exact hp | simp only [hp, true_or, or_true])).atD (i := (i : Int)) (k := i) rfl (by omega)
  cases hek
  have hlk : bk < zp := by have hmo := H.most; (try simp only at hmo hbk); omega
  refine za rfl (zA xU rfl rfl (by omega) (by omega) (za rfl (zn ys rfl hgk hck (za rfl (zk rfl (za rfl (ze rfl (za rfl (zx rfl fc55 rfl ?_)))))))))
  obtain ⟨_, _, hr, rfl, rfl⟩ := needsR_ok (x := (ks.getD i 0)) (bad := bad) hI (hJ.kept H) hj hjl
  refine ⟨_, _, hr, ?_⟩
  clear hr
  cases hnd : yj (ks.getD i 0) bad 0 js
  ·refine za rfl (yz rfl (zb (zq rfl (zC (za rfl (zh (zb (zj (zy ?_)))))))))
   obtain ⟨N2, hN2⟩ : ∃ N2, N2 = N1 + 60 * i := ⟨_, rfl⟩
   rw [← hN2] at H
   refine zf (za rfl (zh (zb (zH (yu (fun k F s1 => ∃ (G : FF) (q : Nat) (n : Int), F = lay G [(0, .int .i64 w), (1, .slice ja js.length jcp), (2, .int .i64 bad), (3, .slice ma may.length mcp), (8, ptr b8), (9, .slice (some ⟨bk, ofk, none⟩) ks.length kc), (10, ptr b10), (11, .int .i64 (i : Int)), (12, .int .i64 n), (13, .int .i64 (q : Int))] ∧ HL [] s s1 ((b10, .cells [.slice psa kt.length psc, .slice pla (kt.map (fun q => (bb js bad may q).1)).length plc] 40) :: (b8, .cells [.slice none 0 0, .slice none 0 0] 40) :: (Dk ++ (P2 ++ P1))) (N2 + 3 * q) ∧ n = numZ js bad may (ks.getD i 0) q ∧ q ≤ may.length ∧ k = may.length - q) ?_ may.length _ _ ?_)))))
   rotate_left
   ·refine ⟨_, 0, _, yb ⟨rfl, rfl, rfl, rfl, rfl, rfl, rfl, rfl, rfl, rfl, trivial⟩, H, ?_, by omega, by omega⟩
    unfold numZ
    rw [hnd]
    rfl
   rintro k F s1 ⟨G, q, n, rfl, H, hn, hq, rfl⟩
   have hnp := numZ_facts (js := js) (bad := bad) (may := may) (S := (ks.getD i 0)) (q := q)
   rw [← hn] at hnp
   refine zy (zf (za rfl (ze rfl (za rfl (zk rfl (za rfl (zZ xM rfl rfl rfl (za rfl (ye rfl rfl (fun h => ?_) (fun h => ?_))))))))))
   ·refine za rfl (zi rfl (za rfl (ze rfl (za rfl (yy rfl rfl (fun h => False.elim (by have := hnp.2.1 hnd; omega)) (fun h => ?_))))))
    refine za rfl (zM rfl rfl (zb (zw rfl (yc (zQ (ya (zY (zj ?_))))))))
    have hSr := (hks (ks.getD i 0)).mp (zP (by omega))
    have hS0 := (hSr.range hm hw0).1
    have hnb : n = (bb js bad may (ks.getD i 0)).1 := by first | (rw [hn]; exact numZ_none hm hS0 hnd) | (rw [hn, show q = may.length by omega]; exact numZ_all hm hS0)
    refine yn [⟨0, 0, .light, [5]⟩, ⟨1, 1, .light, [5]⟩, ⟨2, 0, .light, [1]⟩, ⟨3, 0, .light, [1]⟩, ⟨4, 12, .light, [1]⟩, ⟨5, 28, .light, [1]⟩, ⟨6, 60, .whole, [1]⟩, ⟨7, 127, .whole, []⟩, ⟨8, 255, .light, []⟩, ⟨9, 511, .whole, []⟩] (by kernel_rfl) (by kernel_rfl) ?_
    obtain ⟨_, _, ck, hek, hgk, hbk, hck⟩ := (hkG.sl H (by intro p hp; (try simp only [List.mem_cons, List.mem_append, List.not_mem_nil, or_false] at hp ⊢); first | exact hp | simp only [hp, true_or, or_true])).atD (i := (i : Int)) (k := i) rfl (by omega)
    cases hek
    have hlk : bk < zp := by have hmo := H.most; (try simp only at hmo hbk); omega
    refine zd rfl rfl (zg y9 rfl ⟨rfl, (zG rfl rfl x5 rfl H.own0 (by exact H.lim0 (by omega)) rfl (zd rfl rfl (zk rfl ⟨rfl, (zd rfl rfl (ze rfl ⟨rfl, (zd rfl rfl (zA xU rfl rfl (by omega) (by omega) ⟨rfl, (zG rfl rfl ys rfl hgk hlk hck ?_)⟩))⟩))⟩)))⟩)
    have Hn := (Fine.narrow (X := [b10]) H.fine (by intro p hp; rw [List.mem_singleton] at hp; subst hp; exact H.lt0)).hl
    refine zX rfl rfl (z8 (c := [.int _ _]) Hn qs rfl rfl (by have hmo := H.most; (try simp only at hmo); show _ + _ < _; (try simp only); omega) (fun b87 s87 Hc => ?_))
    have H := H.call (HL.wider H.fine (Nat.le_refl _) (fun _ h => List.mem_append_right _ h) Hc)
    clear Hc
    simp only [List.cons_append, List.nil_append] at H
    have hgt := H.own0
    have H := H.drop0
    rw [← List.append_assoc Dk P2 P1] at H
    have H := HL.swap (A := _ :: _ :: (Dk ++ P2)) (B := P1) H
    have H00 := H
    refine zX rfl rfl (yK H ho1 qs qd rfl rfl rfl (yN hgt rfl) (by decide) rfl rfl (by omega) (by omega) (fun b88 s88 H ho1 => ?_))
    have H := HL.back H00 H
    clear H00
    refine zd rfl rfl (zg y9 rfl ⟨rfl, (dr_store1 (vs := [.slice _ _ _]) (fr := []) H rfl rfl sz31 rfl rfl rfl rfl rfl rfl (by simp) (by omega) (fun s97 H => ?_))⟩)
    refine zR (zC (za rfl (zg y2 rfl (za rfl (zn yS rfl H.own1 rfl (za rfl (ze rfl (za rfl (z8 (c := [.int _ _]) H sl22 rfl rfl (by omega) (fun b93 s3 H => ?_))))))))))
    have hgt := H.own0
    have H := H.drop0
    have H := HL.swap (A := _ :: _ :: _ :: Dk) (B := P2) H
    refine za rfl (yK H ho2 sl22 xt rfl rfl rfl (yN hgt rfl) (by decide) rfl rfl (by omega) (by omega) (fun b94 s94 H ho2 => ?_))
    refine za rfl (zg y2 rfl (za rfl (qt (vs := [.slice _ _ _]) H sz22 rfl rfl rfl rfl rfl (by omega) (fun s4 H => ?_))))
    refine zb (zK (zj (zC (za rfl (ze rfl (za rfl (zW rfl rfl (by unfold zV; omega) (za rfl (zl rfl (zb (zI (⟨ks.length - (i + 1), by omega, _, i + 1, [(b88, .cells (yq kt ++ [.int .i64 (ks.getD i 0)]) 23)], [(b94, .cells (yq (kt.map (fun q => (bb js bad may q).1)) ++ [.int .i64 n]) 3)], some ⟨b88, 0, none⟩, some ⟨b94, 0, none⟩, 2 * (kt.length + 1) + 1, 2 * ((kt.map (fun q => (bb js bad may q).1)).length + 1) + 1, kt ++ [ks.getD i 0], yb ⟨rfl, rfl, rfl, rfl, rfl, rfl, rfl, rfl, trivial⟩, ?_, ?_, ?_, ?_, by simp; omega, by omega, rfl⟩))))))))))))
    ·rw [List.length_append, List.map_append, List.length_append]
     exact (HL.swap (A := [_, _]) (B := _ :: _ :: Dk) H).up (by omega)
    ·rw [y6, List.length_append]
     exact ho1
    ·rw [List.map_append, y6, List.length_append]
     simp only [List.map_cons, List.map_nil]
     rw [← hnb]
     exact ho2
    ·rw [List.take_succ_eq_append_getElem (show i < ks.length by omega), ← hkt]
     simp [List.getD_eq_getElem?_getD, List.getElem?_eq_getElem (show i < ks.length by omega)]
   refine za rfl (zi rfl (zc rfl (zc rfl (za rfl (z6 rfl (zb (zw rfl (yc (zQ (ya (zY (zj ?_))))))))))))
   have hSr := (hks (ks.getD i 0)).mp (zP (by omega))
   have hS0 := (hSr.range hm hw0).1
   have hnb : n = (bb js bad may (ks.getD i 0)).1 := by first | (rw [hn]; exact numZ_none hm hS0 hnd) | (rw [hn, show q = may.length by omega]; exact numZ_all hm hS0)
   refine yn [⟨0, 0, .light, [5]⟩, ⟨1, 1, .light, [5]⟩, ⟨2, 0, .light, [1]⟩, ⟨3, 0, .light, [1]⟩, ⟨4, 12, .light, [1]⟩, ⟨5, 28, .light, [1]⟩, ⟨6, 60, .whole, [1]⟩, ⟨7, 127, .whole, []⟩, ⟨8, 255, .light, []⟩, ⟨9, 511, .whole, []⟩] (by kernel_rfl) (by kernel_rfl) ?_
   obtain ⟨_, _, ck, hek, hgk, hbk, hck⟩ := (hkG.sl H (by intro p hp; (try simp only [List.mem_cons, List.mem_append, List.not_mem_nil, or_false] at hp ⊢); first | exact hp | simp only [hp, true_or, or_true])).atD (i := (i : Int)) (k := i) rfl (by omega)
   cases hek
   have hlk : bk < zp := by have hmo := H.most; (try simp only at hmo hbk); omega
   refine zd rfl rfl (zg y9 rfl ⟨rfl, (zG rfl rfl x5 rfl H.own0 (by exact H.lim0 (by omega)) rfl (zd rfl rfl (zk rfl ⟨rfl, (zd rfl rfl (ze rfl ⟨rfl, (zd rfl rfl (zA xU rfl rfl (by omega) (by omega) ⟨rfl, (zG rfl rfl ys rfl hgk hlk hck ?_)⟩))⟩))⟩)))⟩)
   have Hn := (Fine.narrow (X := [b10]) H.fine (by intro p hp; rw [List.mem_singleton] at hp; subst hp; exact H.lt0)).hl
   refine zX rfl rfl (z8 (c := [.int _ _]) Hn qs rfl rfl (by have hmo := H.most; (try simp only at hmo); show _ + _ < _; (try simp only); omega) (fun b87 s87 Hc => ?_))
   have H := H.call (HL.wider H.fine (Nat.le_refl _) (fun _ h => List.mem_append_right _ h) Hc)
   clear Hc
   simp only [List.cons_append, List.nil_append] at H
   have hgt := H.own0
   have H := H.drop0
   rw [← List.append_assoc Dk P2 P1] at H
   have H := HL.swap (A := _ :: _ :: (Dk ++ P2)) (B := P1) H
   have H00 := H
   refine zX rfl rfl (yK H ho1 qs qd rfl rfl rfl (yN hgt rfl) (by decide) rfl rfl (by omega) (by omega) (fun b88 s88 H ho1 => ?_))
   have H := HL.back H00 H
   clear H00
   refine zd rfl rfl (zg y9 rfl ⟨rfl, (dr_store1 (vs := [.slice _ _ _]) (fr := []) H rfl rfl sz31 rfl rfl rfl rfl rfl rfl (by simp) (by omega) (fun s97 H => ?_))⟩)
   refine zR (zC (za rfl (zg y2 rfl (za rfl (zn yS rfl H.own1 rfl (za rfl (ze rfl (za rfl (z8 (c := [.int _ _]) H sl22 rfl rfl (by omega) (fun b93 s5 H => ?_))))))))))
   have hgt := H.own0
   have H := H.drop0
   have H := HL.swap (A := _ :: _ :: _ :: Dk) (B := P2) H
   refine za rfl (yK H ho2 sl22 xt rfl rfl rfl (yN hgt rfl) (by decide) rfl rfl (by omega) (by omega) (fun b94 s94 H ho2 => ?_))
   refine za rfl (zg y2 rfl (za rfl (qt (vs := [.slice _ _ _]) H sz22 rfl rfl rfl rfl rfl (by omega) (fun s6 H => ?_))))
   refine zb (zK (zj (zC (za rfl (ze rfl (za rfl (zW rfl rfl (by unfold zV; omega) (za rfl (zl rfl (zb (zI (⟨ks.length - (i + 1), by omega, _, i + 1, [(b88, .cells (yq kt ++ [.int .i64 (ks.getD i 0)]) 23)], [(b94, .cells (yq (kt.map (fun q => (bb js bad may q).1)) ++ [.int .i64 n]) 3)], some ⟨b88, 0, none⟩, some ⟨b94, 0, none⟩, 2 * (kt.length + 1) + 1, 2 * ((kt.map (fun q => (bb js bad may q).1)).length + 1) + 1, kt ++ [ks.getD i 0], yb ⟨rfl, rfl, rfl, rfl, rfl, rfl, rfl, rfl, trivial⟩, ?_, ?_, ?_, ?_, by simp; omega, by omega, rfl⟩))))))))))))
   ·rw [List.length_append, List.map_append, List.length_append]
    exact (HL.swap (A := [_, _]) (B := _ :: _ :: Dk) H).up (by omega)
   ·rw [y6, List.length_append]
    exact ho1
   ·rw [List.map_append, y6, List.length_append]
    simp only [List.map_cons, List.map_nil]
    rw [← hnb]
    exact ho2
   ·rw [List.take_succ_eq_append_getElem (show i < ks.length by omega), ← hkt]
    simp [List.getD_eq_getElem?_getD, List.getElem?_eq_getElem (show i < ks.length by omega)]
  refine za rfl (yz rfl (zb (zw rfl (zD (zj (zy ?_))))))
  obtain ⟨N2, hN2⟩ : ∃ N2, N2 = N1 + 60 * i := ⟨_, rfl⟩
  rw [← hN2] at H
  refine zf (za rfl (zh (zb (zH (yu (fun k F s1 => ∃ (G : FF) (q : Nat) (n : Int), F = lay G [(0, .int .i64 w), (1, .slice ja js.length jcp), (2, .int .i64 bad), (3, .slice ma may.length mcp), (8, ptr b8), (9, .slice (some ⟨bk, ofk, none⟩) ks.length kc), (10, ptr b10), (11, .int .i64 (i : Int)), (12, .int .i64 n), (13, .int .i64 (q : Int))] ∧ HL [] s s1 ((b10, .cells [.slice psa kt.length psc, .slice pla (kt.map (fun q => (bb js bad may q).1)).length plc] 40) :: (b8, .cells [.slice none 0 0, .slice none 0 0] 40) :: (Dk ++ (P2 ++ P1))) (N2 + 3 * q) ∧ n = numZ js bad may (ks.getD i 0) q ∧ q ≤ may.length ∧ k = may.length - q) ?_ may.length _ _ ?_)))))
  rotate_left
  ·refine ⟨_, 0, _, yb ⟨rfl, rfl, rfl, rfl, rfl, rfl, rfl, rfl, rfl, rfl, trivial⟩, H, ?_, by omega, by omega⟩
   unfold numZ
   rw [hnd]
   rfl
  rintro k F s1 ⟨G, q, n, rfl, H, hn, hq, rfl⟩
  have hnp := numZ_facts (js := js) (bad := bad) (may := may) (S := (ks.getD i 0)) (q := q)
  rw [← hn] at hnp
  refine zy (zf (za rfl (ze rfl (za rfl (zk rfl (za rfl (zZ xM rfl rfl rfl (za rfl (ye rfl rfl (fun h => ?_) (fun h => ?_))))))))))
  ·refine za rfl (zi rfl (za rfl (ze rfl (za rfl (yy rfl rfl (fun h => ?_) (fun h => False.elim (by have := hnp.1 hnd; omega)))))))
   refine za rfl (zM rfl rfl (zb (zq rfl (zD (zj (zy (zH (zy (yn [⟨0, 0, .light, [8]⟩, ⟨1, 0, .light, [8]⟩, ⟨2, 3, .light, [8]⟩, ⟨3, 7, .light, [8]⟩, ⟨4, 15, .light, [8]⟩, ⟨5, 0, .light, [4]⟩, ⟨6, 0, .light, [4]⟩, ⟨7, 96, .light, [4]⟩, ⟨8, 224, .light, [4]⟩, ⟨9, 511, .light, []⟩] (by kernel_rfl) (by kernel_rfl) ?_)))))))))
   obtain ⟨bm, ofm, cm0, hem, hgm0, hbm, hcm0⟩ := (hM.kept H).atS (i := (q : Int)) (k := q) rfl (by omega)
   cases hem
   obtain ⟨cm, hgm, hcw, hcp⟩ := (hM.kept H).gotS (k := q) (by omega)
   have hlm : bm < zp := by have hmo := H.most; (try simp only at hmo hbm); omega
   obtain ⟨_, _, ck, hek, hgk, hbk, hck⟩ := (hkG.sl H (by intro p hp; (try simp only [List.mem_cons, List.mem_append, List.not_mem_nil, or_false] at hp ⊢); first | exact hp | simp only [hp, true_or, or_true])).atD (i := (i : Int)) (k := i) rfl (by omega)
   cases hek
   have hlk : bk < zp := by have hmo := H.most; (try simp only at hmo hbk); omega
   refine zd rfl rfl (zk rfl ⟨rfl, (zd rfl rfl (ze rfl ⟨rfl, (zd rfl rfl (zA x9 rfl rfl (by omega) (by omega) ⟨rfl, (zd rfl rfl (zg xi rfl ⟨rfl, (zG rfl rfl ys rfl hgm hlm hcw (zd rfl rfl (zk rfl ⟨rfl, (zd rfl rfl (ze rfl ⟨rfl, (zd rfl rfl (zA xU rfl rfl (by omega) (by omega) ⟨rfl, (zG rfl rfl ys rfl hgk hlk hck (zd rfl rfl (yG rfl rfl (fun h => ⟨rfl, ?_⟩) (fun h => ⟨rfl, ?_⟩))))⟩))⟩))⟩)))⟩))⟩))⟩))⟩)
   ·refine zR (zq rfl (yc (zQ (zY (zj (zC (za rfl (ze rfl (za rfl (zW rfl rfl (by unfold zV; omega) (za rfl (zl rfl (zb (zI ?_))))))))))))))
    refine ⟨may.length - (q + 1), by omega, _, q + 1, n, yb ⟨rfl, rfl, rfl, rfl, rfl, rfl, rfl, rfl, rfl, rfl, trivial⟩, H.up (by omega), ?_, by omega, rfl⟩
    rw [numZ_succ (by omega) hnd, stepN, if_pos (by simpa using h)]
    exact hn
   refine zR (zw rfl (zD (zj ?_)))
   have hxS : (may.getD q default).w = (ks.getD i 0) := by simpa using h
   obtain ⟨hsp, hpb⟩ := hm (may.getD q default) (zP (by omega))
   obtain ⟨hf1, hf2, hf3, hf4, hf5, hf6⟩ := yR hsp hpb
   have hSr := (hks (ks.getD i 0)).mp (zP (by omega))
   have hp1 : (may.getD q default).p ∈ kt := by rw [hkt]; exact inc_take hinc (by omega) ((hks _).mpr (.part hSr hnd (zP (by omega)) hxS)) (by omega)
   have hp2 : (zJ (may.getD q default).w (may.getD q default).p) ∈ kt := by rw [hkt]; exact inc_take hinc (by omega) ((hks _).mpr (hxS ▸ .rest hSr hnd (zP (by omega)) hxS)) (by omega)
   have hr1 := yY (js := js) (bad := bad) (may := may) (may.getD q default).p
   have hr2 := yY (js := js) (bad := bad) (may := may) (zJ (may.getD q default).w (may.getD q default).p)
   refine yn [⟨0, 0, .light, [5]⟩, ⟨1, 0, .light, [0]⟩, ⟨2, 0, .light, [0]⟩, ⟨3, 6, .light, [0]⟩, ⟨4, 14, .light, [0]⟩, ⟨5, 30, .light, [0]⟩, ⟨6, 63, .whole, []⟩, ⟨7, 127, .light, []⟩] (by kernel_rfl) (by kernel_rfl) ?_
   obtain ⟨bm, ofm, cm0, hem, hgm0, hbm, hcm0⟩ := (hM.kept H).atS (i := (q : Int)) (k := q) rfl (by omega)
   cases hem
   obtain ⟨cm, hgm, hcw, hcp⟩ := (hM.kept H).gotS (k := q) (by omega)
   have hlm : bm < zp := by have hmo := H.most; (try simp only at hmo hbm); omega
   refine yr rfl rfl xj rfl H.own0 (by exact H.lim0 (by omega)) rfl (zd rfl rfl (zk rfl ⟨rfl, (zd rfl rfl (ze rfl ⟨rfl, (zd rfl rfl (zA x9 rfl rfl (by omega) (by omega) ⟨rfl, (zd rfl rfl (zg y8 rfl ⟨rfl, (zG rfl rfl ys rfl hgm hlm hcp (zX rfl rfl (zx rfl fc46 rfl ?_)))⟩))⟩))⟩))⟩))
   obtain ⟨_, s9, hr, rfl, Hc⟩ := qR (x := (may.getD q default).p) hI H.fine (hG1.sl H (by intro p hp; (try simp only [List.mem_cons, List.mem_append, List.not_mem_nil, or_false] at hp ⊢); first | exact hp | simp only [hp, true_or, or_true])) (hG2.sl H (by intro p hp; (try simp only [List.mem_cons, List.mem_append, List.not_mem_nil, or_false] at hp ⊢); first | exact hp | simp only [hp, true_or, or_true])) (by omega) (by have hmo := H.most; (try simp only at hmo); show _ + _ ≤ _; (try simp only); omega)
   refine ⟨_, _, hr, ?_⟩
   clear hr
   have H := H.call0 (HL.wider H.fine (Nat.le_refl _) (fun _ h => h) Hc)
   clear Hc
   have ha1 : atP kt (kt.map (fun q => (bb js bad may q).1)) (may.getD q default).p = (bb js bad may (may.getD q default).p).1 := atP_map hp1
   rw [ha1]
   refine zd rfl rfl (zl rfl ⟨rfl, (zR (yn [⟨0, 0, .light, [4]⟩, ⟨1, 0, .light, [0]⟩, ⟨2, 0, .light, [0]⟩, ⟨3, 6, .light, [0]⟩, ⟨4, 14, .light, [0]⟩, ⟨5, 30, .whole, [0]⟩, ⟨6, 63, .whole, []⟩, ⟨7, 127, .light, []⟩] (by kernel_rfl) (by kernel_rfl) ?_))⟩)
   obtain ⟨bm, ofm, cm0, hem, hgm0, hbm, hcm0⟩ := (hM.kept H).atS (i := (q : Int)) (k := q) rfl (by omega)
   cases hem
   obtain ⟨cm, hgm, hcw, hcp⟩ := (hM.kept H).gotS (k := q) (by omega)
   have hlm : bm < zp := by have hmo := H.most; (try simp only at hmo hbm); omega
   refine yr rfl rfl xj rfl H.own0 (by exact H.lim0 (by omega)) rfl (zd rfl rfl (zk rfl ⟨rfl, (zd rfl rfl (ze rfl ⟨rfl, (zd rfl rfl (zA x9 rfl rfl (by omega) (by omega) ⟨rfl, (yr rfl rfl sh62 rfl hgm0 hlm hcm0 (zX rfl rfl (zx rfl fc36 rfl ?_)))⟩))⟩))⟩))
   obtain ⟨_, s9, hr, rfl, Hc⟩ := rest_ok (x := (may.getD q default)) hI (Fine.narrow (X := [b10]) H.fine (by intro p hp; rw [List.mem_singleton] at hp; subst hp; exact H.lt0)) (by have hmo := H.most; (try simp only at hmo); show _ + _ ≤ _; (try simp only); omega)
   refine ⟨_, _, hr, ?_⟩
   clear hr
   have H := H.call0 (HL.wider H.fine (Nat.le_refl _) (fun _ h => List.mem_append_right _ h) Hc)
   clear Hc
   refine zX rfl rfl (zx rfl fc46 rfl ?_)
   obtain ⟨_, s9, hr, rfl, Hc⟩ := qR (x := (zJ (may.getD q default).w (may.getD q default).p)) hI H.fine (hG1.sl H (by intro p hp; (try simp only [List.mem_cons, List.mem_append, List.not_mem_nil, or_false] at hp ⊢); first | exact hp | simp only [hp, true_or, or_true])) (hG2.sl H (by intro p hp; (try simp only [List.mem_cons, List.mem_append, List.not_mem_nil, or_false] at hp ⊢); first | exact hp | simp only [hp, true_or, or_true])) (by omega) (by have hmo := H.most; (try simp only at hmo); show _ + _ ≤ _; (try simp only); omega)
   refine ⟨_, _, hr, ?_⟩
   clear hr
   have H := H.call0 (HL.wider H.fine (Nat.le_refl _) (fun _ h => h) Hc)
   clear Hc
   have ha2 : atP kt (kt.map (fun q => (bb js bad may q).1)) (zJ (may.getD q default).w (may.getD q default).p) = (bb js bad may (zJ (may.getD q default).w (may.getD q default).p)).1 := atP_map hp2
   rw [ha2]
   refine zd rfl rfl (zl rfl ⟨rfl, (zR (zf (za rfl (ze rfl (za rfl (ye rfl rfl (fun h => ?_) (fun h => ?_)))))))⟩)
   ·refine za rfl (zi rfl (za rfl (ze rfl (za rfl (ye rfl rfl (fun h => ?_) (fun h => ?_))))))
    ·refine za rfl (zM rfl rfl (zb (zq rfl (zC (za rfl (ze rfl (za rfl (ze rfl (za rfl (zW rfl rfl (by unfold zV; omega) (za rfl (ze rfl (za rfl (zW rfl rfl (by unfold zV; omega) (za rfl (op_min rfl rfl rfl (za rfl (zl rfl (zb ?_)))))))))))))))))))
     refine zK (zj (zC (za rfl (ze rfl (za rfl (zW rfl rfl (by unfold zV; omega) (za rfl (zl rfl (zb (zI (⟨may.length - (q + 1), by omega, _, q + 1, (min n (1 + (bb js bad may (may.getD q default).p).1 + (bb js bad may (zJ (may.getD q default).w (may.getD q default).p)).1)), yb ⟨rfl, rfl, rfl, rfl, rfl, rfl, rfl, rfl, rfl, rfl, trivial⟩, H.up (by omega), ?_, by omega, rfl⟩)))))))))))
     rw [numZ_succ (by omega) hnd, stepN, if_neg (by simpa using hxS), ← hn]
     rw [hxS] at *
     rw [if_pos ⟨by assumption, by assumption⟩]
    refine za rfl (zM rfl rfl (zb (zw rfl (zD (zK (zj (zC (za rfl (ze rfl (za rfl (zW rfl rfl (by unfold zV; omega) (za rfl (zl rfl (zb (zI ?_)))))))))))))))
    refine ⟨may.length - (q + 1), by omega, _, q + 1, n, yb ⟨rfl, rfl, rfl, rfl, rfl, rfl, rfl, rfl, rfl, rfl, trivial⟩, H.up (by omega), ?_, by omega, rfl⟩
    rw [numZ_succ (by omega) hnd, stepN, if_neg (by simpa using hxS), ← hn]
    rw [hxS] at *
    rw [if_neg (fun hh => by first | exact absurd hh.1 (by assumption) | exact absurd hh.2 (by assumption))]
   refine za rfl (zi rfl (zc rfl (zc rfl (za rfl (z6 rfl (zb (zw rfl (zD (zK (zj (zC (za rfl (ze rfl (za rfl (zW rfl rfl (by unfold zV; omega) ?_)))))))))))))))
   refine za rfl (zl rfl (zb (zI (⟨may.length - (q + 1), by omega, _, q + 1, n, yb ⟨rfl, rfl, rfl, rfl, rfl, rfl, rfl, rfl, rfl, rfl, trivial⟩, H.up (by omega), ?_, by omega, rfl⟩))))
   rw [numZ_succ (by omega) hnd, stepN, if_neg (by simpa using hxS), ← hn]
   rw [hxS] at *
   rw [if_neg (fun hh => by first | exact absurd hh.1 (by assumption) | exact absurd hh.2 (by assumption))]
  refine za rfl (zi rfl (zc rfl (zc rfl (za rfl (z6 rfl (zb (zw rfl (yc (zQ (ya (zY (zj ?_))))))))))))
  have hSr := (hks (ks.getD i 0)).mp (zP (by omega))
  have hS0 := (hSr.range hm hw0).1
  have hnb : n = (bb js bad may (ks.getD i 0)).1 := by first | (rw [hn]; exact numZ_none hm hS0 hnd) | (rw [hn, show q = may.length by omega]; exact numZ_all hm hS0)
  refine yn [⟨0, 0, .light, [5]⟩, ⟨1, 1, .light, [5]⟩, ⟨2, 0, .light, [1]⟩, ⟨3, 0, .light, [1]⟩, ⟨4, 12, .light, [1]⟩, ⟨5, 28, .light, [1]⟩, ⟨6, 60, .whole, [1]⟩, ⟨7, 127, .whole, []⟩, ⟨8, 255, .light, []⟩, ⟨9, 511, .whole, []⟩] (by kernel_rfl) (by kernel_rfl) ?_
  obtain ⟨_, _, ck, hek, hgk, hbk, hck⟩ := (hkG.sl H (by intro p hp; (try simp only [List.mem_cons, List.mem_append, List.not_mem_nil, or_false] at hp ⊢); first | exact hp | simp only [hp, true_or, or_true])).atD (i := (i : Int)) (k := i) rfl (by omega)
  cases hek
  have hlk : bk < zp := by have hmo := H.most; (try simp only at hmo hbk); omega
  refine zd rfl rfl (zg y9 rfl ⟨rfl, (zG rfl rfl x5 rfl H.own0 (by exact H.lim0 (by omega)) rfl (zd rfl rfl (zk rfl ⟨rfl, (zd rfl rfl (ze rfl ⟨rfl, (zd rfl rfl (zA xU rfl rfl (by omega) (by omega) ⟨rfl, (zG rfl rfl ys rfl hgk hlk hck ?_)⟩))⟩))⟩)))⟩)
  have Hn := (Fine.narrow (X := [b10]) H.fine (by intro p hp; rw [List.mem_singleton] at hp; subst hp; exact H.lt0)).hl
  refine zX rfl rfl (z8 (c := [.int _ _]) Hn qs rfl rfl (by have hmo := H.most; (try simp only at hmo); show _ + _ < _; (try simp only); omega) (fun b87 s87 Hc => ?_))
  have H := H.call (HL.wider H.fine (Nat.le_refl _) (fun _ h => List.mem_append_right _ h) Hc)
  clear Hc
  simp only [List.cons_append, List.nil_append] at H
  have hgt := H.own0
  have H := H.drop0
  rw [← List.append_assoc Dk P2 P1] at H
  have H := HL.swap (A := _ :: _ :: (Dk ++ P2)) (B := P1) H
  have H00 := H
  refine zX rfl rfl (yK H ho1 qs qd rfl rfl rfl (yN hgt rfl) (by decide) rfl rfl (by omega) (by omega) (fun b88 s88 H ho1 => ?_))
  have H := HL.back H00 H
  clear H00
  refine zd rfl rfl (zg y9 rfl ⟨rfl, (dr_store1 (vs := [.slice _ _ _]) (fr := []) H rfl rfl sz31 rfl rfl rfl rfl rfl rfl (by simp) (by omega) (fun s97 H => ?_))⟩)
  refine zR (zC (za rfl (zg y2 rfl (za rfl (zn yS rfl H.own1 rfl (za rfl (ze rfl (za rfl (z8 (c := [.int _ _]) H sl22 rfl rfl (by omega) (fun b93 s7 H => ?_))))))))))
  have hgt := H.own0
  have H := H.drop0
  have H := HL.swap (A := _ :: _ :: _ :: Dk) (B := P2) H
  refine za rfl (yK H ho2 sl22 xt rfl rfl rfl (yN hgt rfl) (by decide) rfl rfl (by omega) (by omega) (fun b94 s94 H ho2 => ?_))
  refine za rfl (zg y2 rfl (za rfl (qt (vs := [.slice _ _ _]) H sz22 rfl rfl rfl rfl rfl (by omega) (fun s8 H => ?_))))
  refine zb (zK (zj (zC (za rfl (ze rfl (za rfl (zW rfl rfl (by unfold zV; omega) (za rfl (zl rfl (zb (zI (⟨ks.length - (i + 1), by omega, _, i + 1, [(b88, .cells (yq kt ++ [.int .i64 (ks.getD i 0)]) 23)], [(b94, .cells (yq (kt.map (fun q => (bb js bad may q).1)) ++ [.int .i64 n]) 3)], some ⟨b88, 0, none⟩, some ⟨b94, 0, none⟩, 2 * (kt.length + 1) + 1, 2 * ((kt.map (fun q => (bb js bad may q).1)).length + 1) + 1, kt ++ [ks.getD i 0], yb ⟨rfl, rfl, rfl, rfl, rfl, rfl, rfl, rfl, trivial⟩, ?_, ?_, ?_, ?_, by simp; omega, by omega, rfl⟩))))))))))))
  ·rw [List.length_append, List.map_append, List.length_append]
   exact (HL.swap (A := [_, _]) (B := _ :: _ :: Dk) H).up (by omega)
  ·rw [y6, List.length_append]
   exact ho1
  ·rw [List.map_append, y6, List.length_append]
   simp only [List.map_cons, List.map_nil]
   rw [← hnb]
   exact ho2
  ·rw [List.take_succ_eq_append_getElem (show i < ks.length by omega), ← hkt]
   simp [List.getD_eq_getElem?_getD, List.getElem?_eq_getElem (show i < ks.length by omega)]
 refine zb (zw rfl (yc (zQ (ya (zY (zj (zf (za rfl (z7 xj rfl H.own0 rfl (za rfl (qb (vs := [.slice _ _ _, .slice _ _ _]) H sz40 rfl rfl rfl rfl rfl (by omega) (fun s9 H => ?_))))))))))))
 refine zb (zr (zm (yW xj rfl H.own1 rfl ?_)))
 have hi2 : i = ks.length := by omega
 rw [hi2, List.take_length] at hkt
 subst hkt
 refine ⟨_, ⟨psa, kt.length, psc⟩, ⟨pla, _, plc⟩, kt, rfl, H.up (by omega), hinc, hks, hG1.mono ?_, hG2.mono ?_⟩
 ·intro p hp
  simp only [List.mem_cons, List.mem_append, hp, true_or, or_true]
 ·intro p hp
  simp only [List.mem_cons, List.mem_append, hp, true_or, or_true]
end Go.Proofs.YtdejleegamcioaaGreat
