/- undo.Check. -/
import Derived.Test.YtdejleegamcioaaGreatF24
namespace Go.Proofs.YtdejleegamcioaaGreat
open Go Go.M
theorem fb20 : yw Tryz.f20 (Tryz.f20.body.getD .skip) 6 = true := by kernel_rfl
theorem fc57 : yp Tryz.prog 57 = true := by kernel_rfl
theorem fb21 : yw Tryz.f21 (Tryz.f21.body.getD .skip) 1 = true := by kernel_rfl
section
variable (δ : Slc → List Int) (js : List (Int × Int)) (bad : Int) (may : List Sp) (w : Int) (l : List Sp) (ks ns : List Int)
def ChkOK : Prop := y3 δ js bad may (w.toNat + 1) w l = some [] ∧ Lev js bad may ks ns ∧ w ∈ ks ∧ (l.length : Int) ≤ atP ks ns w
def ChkIs (n e : Int) : Prop := (xK w js bad may ≠ 0 ∧ n = 0 ∧ e = xK w js bad may) ∨ (xK w js bad may = 0 ∧ ChkOK δ js bad may w l ks ns ∧ n = l.length ∧ e = 0) ∨ (xK w js bad may = 0 ∧ ¬ ChkOK δ js bad may w l ks ns ∧ n = 0 ∧ e = 22)
variable {δ js bad may w l ks ns}
end
set_option maxHeartbeats 4000000 in
set_option maxRecDepth 10000 in
theorem check_ok {I : yb} (hI : Plain I) {s : St} (hf : Fine s) {δ : Slc → List Int} {a1 a2 ja ma la : Option Addr} {c1 c2 jcp mcp lcp : Nat} {ks ns : List Int} {w bad : Int} {js : List (Int × Int)} {may l : List Sp} (hu : UsSt s δ (.slice ja js.length jcp) (.slice ma may.length mcp) (.slice la l.length lcp) js may l) (h1 : Sl s 23 1 (.slice a1 ks.length c1) (ks.map dc)) (h2 : Sl s 3 1 (.slice a2 ns.length c2) (ns.map dc)) (hin : ∀ x ∈ may, x.p < 9223372036854775808) (hml : may.length ≤ 15) (hll : l.length ≤ 1000) (hkl : ks.length ≤ 100000) (hroom : s.next + (10020 + tc l.length + 60 * ks.length) ≤ zo) :
  ∃ v' s', yI Tryz.prog I 20 #[.int .i64 w, .slice ja js.length jcp, .int .i64 bad, .slice ma may.length mcp, .slice la l.length lcp, .agg ⟨[.slice a1 ks.length c1, .slice a2 ns.length c2]⟩] s v' s' ∧ (∃ (n e : Int), v' = .tuple ⟨[.int .i64 n, .int .i64 e]⟩ ∧ ChkIs δ js bad may w l ks ns n e ∧ HL [] s s' [] (10020 + tc l.length + 60 * ks.length)) := by
 have H := hf.hl
 refine yc 6 (hI 20 (by decide) (by decide)) Tryz.func20 rfl fb20 rfl ?_
 refine ze (za rfl (yX H rfl (by omega) (fun b11 s1 H => ?_)))
 refine za rfl (zh (za rfl (zh (zb (zx (ze (za rfl (zf rfl (za rfl (zm rfl (za rfl (zf rfl (za rfl (zm rfl (za rfl (zy rfl fc40 rfl ?_))))))))))))))))
 obtain ⟨_, s9, hr, rfl, Hc⟩ := valid_args_ok (w := w) (bad := bad) hI H.fine (hu.sJ.kept H) (hu.sM.kept H) (by have := H.most; omega)
 refine ⟨_, _, hr, ?_⟩
 clear hr
 have H := H.call0 Hc
 clear Hc
 refine za rfl (zk rfl (zb (ze (za rfl (zf rfl (za rfl (yM rfl rfl (fun h => ?_) (fun h => ?_))))))))
 ·refine zb (zq rfl (ze (za rfl (zf rfl (za rfl (zh (za rfl (zk rfl (zb (zu (zn (zp (yE rfl rfl ?_)))))))))))))
  exact ⟨0, _, rfl, .inl ⟨h, rfl, rfl⟩, (H.sub (List.nil_sublist _)).up (by omega)⟩
 refine zb (zv rfl (zD (zj ?_)))
 have herr : xK w js bad may = 0 := by simpa using h
 obtain ⟨_, hjl, hw0, hw1, hb0, hb1, hsp, hjb⟩ := err_zero herr
 have hm : y0 may := fun x hx => ⟨hsp x hx, hin x hx⟩
 have hj : ∀ j ∈ js, joinB j := fun j hj => (joinsB_all hjb j hj).1
 refine ze (za rfl (zf rfl (za rfl (zm rfl (za rfl (zf rfl (za rfl (zm rfl (za rfl (zm rfl (za rfl (zy rfl fc56 rfl ?_))))))))))))
 obtain ⟨v9, s9, hr, hP, Hc⟩ := cleanP_ok (bad := bad) hI hj hjl hm hml (w.toNat + 1) w hw0 (by omega) l la lcp hll _ H.fine (hu.kept H) (by have := H.most; omega)
 refine ⟨_, _, hr, ?_⟩
 clear hr
 have H := H.call0 Hc
 clear Hc
 rcases hcz : y3 δ js bad may (w.toNat + 1) w l with _ | r
 ·rw [hcz] at hP
  obtain rfl : v9 = .tuple ⟨[.slice none 0 0, .bool false]⟩ := hP
  refine za rfl (yq rfl (za rfl (zE rfl rfl (za rfl (zE rfl rfl (za rfl (zT rfl (za rfl (zr rfl (zb (ze (za rfl (ya sh36 rfl H.own0 rfl (za rfl (zf rfl (za rfl (zm rfl (za rfl (zf rfl (za rfl (zm rfl ?_)))))))))))))))))))))
  refine za rfl (zy rfl fc57 rfl ?_)
  obtain ⟨_, s9, hr, nn, bb, rfl, hst, hsf, Hc⟩ := shows_ok (w := w) (bad := bad) hI H.fine (h1.kept H) (h2.kept H) (hu.sJ.kept H) (hu.sM.kept H) hj hjl hml hkl (by have := H.most; omega)
  refine ⟨_, _, hr, ?_⟩
  clear hr
  have H := H.call0 Hc
  clear Hc
  cases bb
  ·refine za rfl (yq rfl (za rfl (zE rfl rfl (za rfl (zE rfl rfl (za rfl (zk rfl (za rfl (zr rfl (zb (zx (ze (za rfl (zi rfl (za rfl (yC rfl (za rfl (zi rfl (zc rfl ?_)))))))))))))))))))
   refine zc rfl (zc rfl (za rfl (zC rfl (za rfl (zi rfl (zc rfl (zc rfl (za rfl (zC rfl (za rfl (zi rfl (zc rfl (zc rfl (zc rfl (zc rfl ?_)))))))))))))))
   refine za rfl (zC rfl (zb (zq rfl (ze (za rfl (zh (za rfl (zh (zb (zu (zn (zp (yE rfl rfl (⟨0, 22, rfl, .inr (.inr ⟨herr, fun hc => ?_, rfl, rfl⟩), (H.sub (List.nil_sublist _)).up (by omega)⟩))))))))))))))
   obtain ⟨hc1, hc2, hc3, hc4⟩ := hc
   first
    | (rw [hcz] at hc1; cases hc1; done)
    | (rw [hcz] at hc1; cases hc1; simp at h; done)
    | exact hsf rfl ⟨hc2, hc3⟩
    | (have := (hst rfl).2.2; omega)
  refine za rfl (yq rfl (za rfl (zE rfl rfl (za rfl (zE rfl rfl (za rfl (zk rfl (za rfl (zr rfl (zb (zx (ze (za rfl (zi rfl (za rfl (yC rfl (za rfl (zi rfl (zc rfl ?_)))))))))))))))))))
  refine zc rfl (zc rfl (za rfl (zC rfl (za rfl (zi rfl (zc rfl (zc rfl (za rfl (zC rfl (za rfl (zi rfl (zc rfl (zc rfl (zc rfl (zc rfl ?_)))))))))))))))
  refine za rfl (zC rfl (zb (zq rfl (ze (za rfl (zh (za rfl (zh (zb (zu (zn (zp (yE rfl rfl (⟨0, 22, rfl, .inr (.inr ⟨herr, fun hc => ?_, rfl, rfl⟩), (H.sub (List.nil_sublist _)).up (by omega)⟩))))))))))))))
  obtain ⟨hc1, hc2, hc3, hc4⟩ := hc
  first
   | (rw [hcz] at hc1; cases hc1; done)
   | (rw [hcz] at hc1; cases hc1; simp at h; done)
   | exact hsf rfl ⟨hc2, hc3⟩
   | (have := (hst rfl).2.2; omega)
 rw [hcz] at hP
 obtain ⟨ra, rc, rfl, hrS⟩ := hP
 refine za rfl (yq rfl (za rfl (zE rfl rfl (za rfl (zE rfl rfl (za rfl (zT rfl (za rfl (zr rfl (zb (ze (za rfl (ya sh36 rfl H.own0 rfl (za rfl (zf rfl (za rfl (zm rfl (za rfl (zf rfl (za rfl (zm rfl ?_)))))))))))))))))))))
 refine za rfl (zy rfl fc57 rfl ?_)
 obtain ⟨_, s9, hr, nn, bb, rfl, hst, hsf, Hc⟩ := shows_ok (w := w) (bad := bad) hI H.fine (h1.kept H) (h2.kept H) (hu.sJ.kept H) (hu.sM.kept H) hj hjl hml hkl (by have := H.most; omega)
 refine ⟨_, _, hr, ?_⟩
 clear hr
 have H := H.call0 Hc
 clear Hc
 cases bb
 ·refine za rfl (yq rfl (za rfl (zE rfl rfl (za rfl (zE rfl rfl (za rfl (zk rfl (za rfl (zr rfl (zb (zx (ze (za rfl (zi rfl (za rfl (yC rfl (za rfl (zi rfl (za rfl (zm rfl ?_))))))))))))))))))))
  refine za rfl (z7 qF rfl rfl rfl (za rfl (yz rfl rfl (fun h => ?_) (fun h => ?_))))
  ·refine za rfl (zw rfl rfl (za rfl (zi rfl (zc rfl (zc rfl (za rfl (zC rfl (za rfl (zi rfl (zc rfl (zc rfl (zc rfl (zc rfl (za rfl (zC rfl (zb ?_))))))))))))))))
   refine zq rfl (ze (za rfl (zh (za rfl (zh (zb (zu (zn (zp (yE rfl rfl (⟨0, 22, rfl, .inr (.inr ⟨herr, fun hc => ?_, rfl, rfl⟩), (H.sub (List.nil_sublist _)).up (by omega)⟩)))))))))))
   obtain ⟨hc1, hc2, hc3, hc4⟩ := hc
   first
    | (rw [hcz] at hc1; cases hc1; done)
    | (rw [hcz] at hc1; cases hc1; simp at h; done)
    | exact hsf rfl ⟨hc2, hc3⟩
    | (have := (hst rfl).2.2; omega)
  refine za rfl (zw rfl rfl (za rfl (zi rfl (za rfl (zi rfl (za rfl (yC rfl (za rfl (zw rfl rfl (za rfl (zi rfl (zc rfl (zc rfl (zc rfl (zc rfl (za rfl (zC rfl (zb ?_))))))))))))))))))
  refine zq rfl (ze (za rfl (zh (za rfl (zh (zb (zu (zn (zp (yE rfl rfl (⟨0, 22, rfl, .inr (.inr ⟨herr, fun hc => ?_, rfl, rfl⟩), (H.sub (List.nil_sublist _)).up (by omega)⟩)))))))))))
  obtain ⟨hc1, hc2, hc3, hc4⟩ := hc
  first
   | (rw [hcz] at hc1; cases hc1; done)
   | (rw [hcz] at hc1; cases hc1; simp at h; done)
   | exact hsf rfl ⟨hc2, hc3⟩
   | (have := (hst rfl).2.2; omega)
 refine za rfl (yq rfl (za rfl (zE rfl rfl (za rfl (zE rfl rfl (za rfl (zk rfl (za rfl (zr rfl (zb (zx (ze (za rfl (zi rfl (za rfl (yC rfl (za rfl (zi rfl (za rfl (zm rfl ?_))))))))))))))))))))
 refine za rfl (z7 qF rfl rfl rfl (za rfl (yz rfl rfl (fun h => ?_) (fun h => ?_))))
 ·refine za rfl (zw rfl rfl (za rfl (zi rfl (zc rfl (zc rfl (za rfl (zC rfl (za rfl (zi rfl (zc rfl (zc rfl (zc rfl (zc rfl (za rfl (zC rfl (zb ?_))))))))))))))))
  refine zq rfl (ze (za rfl (zh (za rfl (zh (zb (zu (zn (zp (yE rfl rfl (⟨0, 22, rfl, .inr (.inr ⟨herr, fun hc => ?_, rfl, rfl⟩), (H.sub (List.nil_sublist _)).up (by omega)⟩)))))))))))
  obtain ⟨hc1, hc2, hc3, hc4⟩ := hc
  first
   | (rw [hcz] at hc1; cases hc1; done)
   | (rw [hcz] at hc1; cases hc1; simp at h; done)
   | exact hsf rfl ⟨hc2, hc3⟩
   | (have := (hst rfl).2.2; omega)
 refine za rfl (zw rfl rfl (za rfl (zi rfl (za rfl (zi rfl (za rfl (yC rfl (za rfl (zw rfl rfl (za rfl (zi rfl (za rfl (zf rfl (za rfl (zm rfl (za rfl (z7 qF rfl rfl rfl (za rfl (yg rfl rfl (fun h => ?_) (fun h => ?_))))))))))))))))))))
 ·refine za rfl (zw rfl rfl (zb (zq rfl (ze (za rfl (zh (za rfl (zh (zb (zu (zn (zp (yE rfl rfl (⟨0, 22, rfl, .inr (.inr ⟨herr, fun hc => ?_, rfl, rfl⟩), (H.sub (List.nil_sublist _)).up (by omega)⟩))))))))))))))
  obtain ⟨hc1, hc2, hc3, hc4⟩ := hc
  first
   | (rw [hcz] at hc1; cases hc1; done)
   | (rw [hcz] at hc1; cases hc1; simp at h; done)
   | exact hsf rfl ⟨hc2, hc3⟩
   | (have := (hst rfl).2.2; omega)
 refine za rfl (zw rfl rfl (zb (zv rfl (zD (zj (ze (za rfl (zm rfl (za rfl (z7 qF rfl rfl rfl (za rfl (zk rfl (za rfl (zh (zb (zu ?_))))))))))))))))
 refine zp (yE rfl rfl (⟨_, 0, rfl, .inr (.inl ⟨herr, ⟨?_, (hst rfl).1, (hst rfl).2.1, ?_⟩, rfl, rfl⟩), (H.sub (List.nil_sublist _)).up (by omega)⟩))
 ·rw [hcz, List.eq_nil_of_length_eq_zero (show r.length = 0 by omega)]
 ·rw [← (hst rfl).2.2]
  omega
set_option maxHeartbeats 4000000 in
set_option maxRecDepth 10000 in
theorem own_ok {I : yb} (hI : Plain I) {s : St} (hf : Fine s) {a1 a2 : Option Addr} {n1 n2 c1 c2 : Nat} (hroom : s.next + 2 ≤ zo) :
  ∃ v' s', yI Tryz.prog I 21 #[.agg ⟨[.slice a1 n1 c1, .slice a2 n2 c2]⟩] s v' s' ∧ (v' = .agg ⟨[.slice a1 n1 c1, .slice a2 n2 c2]⟩ ∧ HL [] s s' [] 2) := by
 have H := hf.hl
 refine yc 1 (hI 21 (by decide) (by decide)) Tryz.func21 rfl fb21 rfl ?_
 refine ze (za rfl (yX H rfl (by omega) (fun b1 s1 H => ?_)))
 refine za rfl (z6 H zf36 (by omega) (fun b2 s2 H => ?_))
 refine zb (ze (za rfl (zg xo rfl (za rfl (zl qe rfl H.own1 rfl (za rfl (zg xf rfl (za rfl (zl yW rfl H.own1 rfl (za rfl (yZ (c := [.slice _ _ _, .slice _ _ _]) bf36 rfl (za rfl (zX (vs := [.slice _ _ _, .slice _ _ _]) H sz36 rfl rfl rfl rfl rfl (by omega) (fun s3 H => ?_))))))))))))))
 refine zb (zu (zp (yU sh36 rfl H.own0 rfl ?_)))
 exact ⟨rfl, H.sub (List.nil_sublist _)⟩
end Go.Proofs.YtdejleegamcioaaGreat
