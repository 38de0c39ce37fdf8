/- From a contract over one goroutine to a good run in the sense of a row that says 'leaving'. -/
/- The start of a law: the arguments, as the abstract machine sees them. -/
/- Levels with one thing changed. -/
/- Lists out of which one is taken. -/
import Derived.Conc.LeavingOf
import Derived.Handed
import Derived.Test.YtdejleegamcioaaGreatF34
import Derived.Carry
import Derived.Test.YtdejleegamcioaaGreatF27
namespace Go
open Go.Conc
theorem good_of_calls {P : Program} {f : FuncId} {args : Array Value} {W : World} {Post : Value → World → Prop} (hi : P.inits.idxOf? f = none)
  (h : Calls P f args W fun | .returned v, w' => Post v w' | _, _ => False) :
  ∃ M last o w' t', runNT P (M + 1) (solo (G (Frame.enter P f args .normal) []) W) #[] = (.ended o w', t') ∧ runN P M (solo (G (Frame.enter P f args .normal) []) W) = .next last ∧ step P last = .ended o w' ∧ Conc.Good P Post last o w' t' := by
 obtain ⟨n, v, w', fr, hn, hend, hp⟩ := h.done_lone hi
 have e : (runNT P (n + 1) (lone (Frame.enter P f args .normal) [] W) #[]).1 = .ended (.done v) w' := by rw [runNT_fst]; exact hend
 refine ⟨n, lone fr [] w', .done v, w', (runNT P (n + 1) (lone (Frame.enter P f args .normal) [] W) #[]).2, Prod.ext e rfl, hn, step_of_runs hn hend, v, rfl, hp, ?_, handedOver_of_lone hn, ?_, ?_⟩
 ·intro said
  exact (no_race_of_lone (said := said) P n _ _ hn (by simp [lone]) rfl).2
 ·exact ⟨fun g hg => by simp [lone] at hg, rfl⟩
 ·intro i g hg hi
  cases i with
  | zero => exact absurd rfl hi
  | succ k => simp [lone] at hg
end Go
namespace Go.Proofs.YtdejleegamcioaaGreat
open Go Go.M
structure Given (β : Ren) (s : St) (W : World) (v v' : Value) (l : List Int) : Prop where
 rel : Rel Tryz.prog β s W
 val : VRel Tryz.prog β v v'
 fine : Fine s
 sl : SlI s v l
 next : s.next ≤ 1
 free : ∀ b, s.next ≤ b → β b = none
 shut : ∀ b, b < s.next → s.may b = false
theorem given_nil (W : World) : ∃ β s v, Given β s W v (.slice none 0 0) [] := by
 refine ⟨fun _ => none, ⟨0, 0, [], .nil⟩, .slice none 0 0, ⟨?_, .snil, ⟨Nat.le_refl _, fun p h => (by cases h)⟩, .nil 0 rfl rfl, Nat.zero_le _, fun _ _ => rfl, fun b h => (by cases h)⟩⟩
 exact ⟨fun b m h => (by cases h), fun b m o h => (by cases h), fun b b' m m' o o' h => (by cases h), Nat.zero_le _, fun b _ => rfl⟩
theorem given_block (W : World) (m : Img) (c : List Value) (o' : Obj) (v v' : Value) (l : List Int) (ho : W.heap[m.blk]? = some o') (hr : ∀ β, ORel Tryz.prog β m (.cells c 3) o') (hv : VRel Tryz.prog (fun b => if b = 0 then some m else none) v v')
  (hs : ∀ s : St, 0 < s.next → s.get 0 = some (.cells c 3) → SlI s v l) : ∃ β s v, Given β s W v v' l := by
 refine ⟨fun b => if b = 0 then some m else none, ⟨1, 1, [], .node (some (.cells c 3)) .nil .nil⟩, v, ⟨?_, hv, ⟨Nat.le_refl _, fun p h => (by cases h)⟩, hs _ (Nat.one_pos) rfl, Nat.le_refl _, fun b hb => ?_, fun b hb => ?_⟩⟩
 ·refine ⟨fun b m' h hb => ?_, fun b m' o h hb hg => ?_, fun b b' m' m'' o o'' h h' hb hb' hg hg' hm => ?_, (by show 1 ≤ 281474976710655; decide), fun b hb => ?_⟩
  ·have : b = 0 := by simp only at hb; omega
   subst this
   simp only [if_pos] at h
   cases h
   exact (Array.getElem?_eq_some_iff.mp ho).1
  ·have : b = 0 := by simp only at hb; omega
   subst this
   simp only [if_pos] at h
   cases h
   cases hg
   exact ⟨o', ho, hr _⟩
  ·simp only at hb hb'; omega
  ·simp only at hb
   cases b with
   | zero => omega
   | succ k =>
    show Tr.get _ _ = none
    simp only [Tr.get]
    split <;> rfl
 ·simp only at hb
  rw [if_neg (by omega)]
 ·have : b = 0 := by simp only at hb; omega
  subst this
  rfl
theorem given_slice {W : World} {a : Addr} {len cap : Nat} {zs : List Int} (hsp : a.spot = none) (hz : zs.length = cap) (hl : len ≤ cap) (hsh : ∃ x, W.shape? a.block = some x)
  (hc : ∀ i, i < zs.length → W.cell? (a.add i) = some (.int .i64 (zs.getD i 0))) (hf : ∀ i, i < cap → W.frozen? ⟨a.block, a.off + i, none⟩ = false) :
  ∃ β s v, Given β s W v (.slice (some a) len cap) (zs.take len) := by
 obtain ⟨b, off, sp⟩ := a
 simp only at hsp
 subst hsp
 obtain ⟨x, hx⟩ := hsh
 unfold World.shape? at hx
 split at hx
 ·next cs e fz ho =>
  have hcs : ∀ i, i < cap → cs[off + i]? = some (.int .i64 (zs.getD i 0)) := fun i hi => by
   have h := hc i (by omega)
   have e1 : (Addr.add ⟨b, off, none⟩ i) = ⟨b, off + i, none⟩ := by unfold Addr.add; split <;> simp_all
   rw [e1] at h
   simpa [World.cell?, ho] using h
  by_cases h0 : cap = 0
  ·have : zs = [] := List.eq_nil_of_length_eq_zero (by omega)
   subst this
   have hl0 : len = 0 := by omega
   subst hl0 h0
   refine given_block W ⟨b, 0, 0, 3⟩ [] _ (.slice (some ⟨0, 0, none⟩) 0 0) _ _ ho (fun β => ?_) (.szero (m := ⟨b, 0, 0, 3⟩) (by simp)) (fun s hn hg => .block 0 0 0 [] 3 (by simp) hg hn (fun k hk => by simp at hk))
   exact .cells rfl (Nat.zero_le _) (.inl rfl) (fun i _ hi => by simp at hi) (fun i v h => by simp at h)
  ·refine given_block W ⟨b, off, off + cap, 3⟩ (yo zs) _ (.slice (some ⟨0, 0, none⟩) len (2 * cap)) _ _ ho (fun β => ?_) ?_ (fun s hn hg => .block 0 0 (2 * cap) (yo zs) 3 (by simp [List.length_take]; omega) hg hn (fun k hk => ?_))
   ·refine .cells rfl ?_ (.inr (by simp [yo]; omega)) (fun i h1 h2 => ?_) (fun i v h => ?_)
    ·have := hcs (cap - 1) (by omega)
     have := (Array.getElem?_eq_some_iff.mp this).1
     simp only; omega
    ·simp only at h1 h2
     have := hf (i - off) (by omega)
     simp only [World.frozen?, ho, show off + (i - off) = i by omega, Bool.and_eq_false_iff, decide_eq_false_iff_not] at this
     omega
    ·have hi : i < zs.length := by
      have := (List.getElem?_eq_some_iff.mp h).1
      simpa [yo] using this
     refine ⟨.int .i64 (zs.getD i 0), ?_, ?_⟩
     ·simp only
      rw [Nat.add_comm]
      exact hcs i (by omega)
     ·have : v = .int .i64 (zs.getD i 0) := by
       have h2 := lget_ints hi
       rw [yY, h] at h2
       exact Option.some.inj h2
      subst this
      exact .int _ _
   ·have := VRel.sknown (P := Tryz.prog) (β := fun b' => if b' = 0 then some (⟨b, off, off + cap, 3⟩ : Img) else none) (b := 0) (off := 0) (len := len) (c := cap) (m := ⟨b, off, off + cap, 3⟩) (by simp)
    simpa using this
   ·have hk2 : k < len := by simp [List.length_take] at hk; omega
    rw [Nat.zero_add, lget_ints (by omega)]
    congr 2
    simp [List.getD_eq_getElem?_getD, List.getElem?_take, hk2]
 ·cases hx
theorem given_calls {β : Ren} {s s' : St} {W : World} {v v' : Value} {l : List Int} {f : FuncId} {a b c : Int} (g : Given β s W v v' l)
  (hr : yI Tryz.prog lawT f #[v, .int .i64 a, .int .i64 b, .int .i64 c] s (.bool true) s') :
  Calls Tryz.prog f #[v', .int .i64 a, .int .i64 b, .int .i64 c] W fun | .returned x, w' => x = .bool true ∧ RowKit.Below W.heap.size W w' | _, _ => False := by
 obtain ⟨n, hn⟩ := hr
 have hn := hn n (Nat.le_refl _)
 have h := (call_ok hmixT lawT_ok n).2 f #[v, .int .i64 a, .int .i64 b, .int .i64 c] #[v', .int .i64 a, .int .i64 b, .int .i64 c] s β W g.rel (.cons g.val (.cons (.int _ _) (.cons (.int _ _) (.cons (.int _ _) .nil)))) (by rw [hn]; intro h; cases h)
  (by rw [hn]; intro x hx _; exact g.free x hx)
 rw [hn] at h
 refine h.mono fun e w' hp => ?_
 obtain ⟨β', v2, rfl, hext, hv⟩ := hp
 cases hv
 refine ⟨rfl, hext.os, hext.tape, hext.output, hext.size, fun k hk => hext.out k hk fun x m o hb hlt hmay => ?_⟩
 rw [g.shut x hlt] at hmay
 cases hmay
end Go.Proofs.YtdejleegamcioaaGreat
namespace Go.Proofs.YtdejleegamcioaaGreat
open Go Go.M
theorem fb18 : yw Tryz.f18 (Tryz.f18.body.getD .skip) 4 = true := by kernel_rfl
set_option maxHeartbeats 4000000 in
set_option maxRecDepth 10000 in
theorem moved_ok {I : yb} (hI : Plain I) {s : St} (hf : Fine s) {a1 a2 : Option Addr} {c1 c2 : Nat} {ks ns : List Int} {how at_ by_ : Int} (h1 : Sl s 23 1 (.slice a1 ks.length c1) (ks.map dc)) (h2 : Sl s 3 1 (.slice a2 ns.length c2) (ns.map dc)) (hkl : ks.length ≤ 100000) (hnl : ns.length ≤ 100000) (i1 : zS how) (i2 : zS at_) (i3 : zS by_) (hroom : s.next + 20 ≤ zo) :
  ∃ v' s', yI Tryz.prog I 18 #[.agg ⟨[.slice a1 ks.length c1, .slice a2 ns.length c2]⟩, .int .i64 how, .int .i64 at_, .int .i64 by_] s v' s' ∧ (∃ (D : Hp') (p1 p2 : Slc) (ks' ns' : List Int), v' = .agg ⟨[p1.v, p2.v]⟩ ∧ HL [] s s' D 20 ∧ SlG D 23 1 p1.v (ks'.map dc) ∧ SlG D 3 1 p2.v (ns'.map dc) ∧ ks'.length ≤ ks.length + 1 ∧ ns'.length ≤ ns.length + 1) := by
 have H := hf.hl
 refine yc 4 (hI 18 (by decide) (by decide)) Tryz.func18 rfl fb18 rfl ?_
 refine ze (za rfl (yX H rfl (by omega) (fun b4 s1 H => ?_)))
 refine za rfl (z6 H zf40 (by omega) (fun b8 s2 H => ?_))
 refine zb (yy [⟨1, 0, .light, [6]⟩, ⟨2, 2, .light, [6]⟩, ⟨5, 0, .light, [2]⟩, ⟨6, 32, .light, [2]⟩, ⟨0, 0, .fresh, [2, 6]⟩, ⟨3, 7, .fresh, [6]⟩, ⟨4, 0, .fresh, [2, 6]⟩, ⟨7, 127, .fresh, []⟩, ⟨8, 255, .light, []⟩, ⟨9, 0, .fresh, [2, 6]⟩, ⟨10, 1023, .whole, []⟩] (by kernel_rfl) (by kernel_rfl) (zd rfl rfl (zg xo rfl ⟨rfl, (zG rfl rfl qe rfl H.own1 (by exact H.lim1 (by omega)) rfl (zd rfl rfl (zg xf rfl ⟨rfl, (zG rfl rfl yW rfl H.own1 (by exact H.lim1 (by omega)) rfl ?_)⟩)))⟩)))
 have Hn := (Fine.fresh H.fine).hl
 refine xb rfl rfl (yd (c := []) Hn sl31 rfl rfl (by have hmo := H.most; (try simp only at hmo); show _ + _ < _; (try simp only); omega) (fun b12 s12 Hc => ?_))
 have H := H.call (HL.wider H.fine H.fine.wfb (fun _ h => h) Hc)
 clear Hc Hn
 simp only [List.cons_append, List.nil_append] at H
 refine dr_appendF rfl rfl H sl31 un31 rfl rfl rfl (h1.kept H).elemsI (ints_plain ks) (by simp [yo]) (by omega) (by omega) (fun b15 cap15 s15 H hcap15 => ?_)
 have Hn := (Fine.fresh H.fine).hl
 refine xb rfl rfl (yd (c := []) Hn sl22 rfl rfl (by have hmo := H.most; (try simp only at hmo); show _ + _ < _; (try simp only); omega) (fun b16 s16 Hc => ?_))
 have H := H.call (HL.wider H.fine H.fine.wfb (fun _ h => h) Hc)
 clear Hc Hn
 simp only [List.cons_append, List.nil_append] at H
 refine dr_appendF rfl rfl H sl22 xE rfl rfl rfl (h2.kept H).elemsI (ints_plain ns) (by simp [yo]) (by omega) (by omega) (fun b19 cap19 s19 H hcap19 => ?_)
 refine zd rfl rfl (yZ (c := [.slice _ _ _, .slice _ _ _]) bf40 rfl ⟨rfl, ?_⟩)
 have Hn := (Fine.fresh H.fine).hl
 refine xb rfl rfl (z6 Hn zf40 (by have hmo := H.most; (try simp only at hmo); show _ + _ < _; (try simp only); omega) (fun b9 s9 Hc => ?_))
 have H := H.call (HL.wider H.fine H.fine.wfb (fun _ h => h) Hc)
 clear Hc Hn
 simp only [List.cons_append, List.nil_append] at H
 refine qR (vs := [.slice _ _ _, .slice _ _ _]) (fr := []) H rfl rfl sz40 rfl rfl rfl rfl rfl rfl (by have hd := H.dist; simp only [List.pairwise_cons, List.mem_cons, List.not_mem_nil, or_false, forall_eq_or_imp, forall_eq, false_imp_iff, implies_true] at hd ⊢; try omega) (by omega) (fun s3 H => ?_)
 refine zV (ze (za rfl (zg xo rfl (za rfl (zl qe rfl H.own0 rfl (za rfl (z7 un31 rfl rfl rfl (za rfl (zk rfl (zb (zx (ze (za rfl (zf rfl (za rfl (yJ rfl rfl (fun h => ?_) (fun h => ?_)))))))))))))))))
 ·refine za rfl (zi rfl (zc rfl (zc rfl (zc rfl (zc rfl (zc rfl (za rfl (zC rfl (zb (zq rfl (ze (za rfl (zf rfl (za rfl (yd (c := [.int _ _]) H sl31 rfl rfl (by omega) (fun b34 s4 H => ?_))))))))))))))))
  refine za rfl (zf rfl (za rfl (yd (c := [.int _ _]) H sl22 rfl rfl (by omega) (fun b36 s5 H => ?_))))
  refine za rfl (yZ (c := [.slice _ _ _, .slice _ _ _]) bf40 rfl (za rfl (op_store5 (vs := [.slice _ _ _, .slice _ _ _]) H sz40 rfl rfl rfl rfl rfl (by omega) (fun s6 H => ?_))))
  refine zb (zu (zn (zp (yU sh40 rfl H.own5 rfl ?_))))
  have hg1 := intsG (b := b34) (cap := 2 * 1) (e := 23) (l := [by_]) (by simp)
  have hg2 := intsG (b := b36) (cap := 2 * 1) (e := 3) (l := [at_]) (by simp)
  refine ⟨_, ⟨some ⟨b34, 0, none⟩, 1, 2 * 1⟩, ⟨some ⟨b36, 0, none⟩, 1, 2 * 1⟩, [by_], [at_], rfl, H.up (by omega), hg1.mono ?_, hg2.mono ?_, by simp, by simp⟩
  ·intro p hp
   rw [List.mem_singleton] at hp
   subst hp
   simp only [yo, List.map_cons, List.map_nil, List.mem_cons, true_or, or_true]
  ·intro p hp
   rw [List.mem_singleton] at hp
   subst hp
   simp only [yo, List.map_cons, List.map_nil, List.mem_cons, true_or, or_true]
 refine za rfl (zi rfl (za rfl (zg xf rfl (za rfl (zl yW rfl H.own0 rfl (za rfl (z7 xE rfl rfl rfl (za rfl (zf rfl (za rfl (yM rfl rfl (fun h => ?_) (fun h => ?_))))))))))))
 ·refine za rfl (zw rfl rfl (zb (zq rfl (ze (za rfl (zf rfl (za rfl (yd (c := [.int _ _]) H sl31 rfl rfl (by omega) (fun b34 s7 H => ?_)))))))))
  refine za rfl (zf rfl (za rfl (yd (c := [.int _ _]) H sl22 rfl rfl (by omega) (fun b36 s8 H => ?_))))
  refine za rfl (yZ (c := [.slice _ _ _, .slice _ _ _]) bf40 rfl (za rfl (op_store5 (vs := [.slice _ _ _, .slice _ _ _]) H sz40 rfl rfl rfl rfl rfl (by omega) (fun s9 H => ?_))))
  refine zb (zu (zn (zp (yU sh40 rfl H.own5 rfl ?_))))
  have hg1 := intsG (b := b34) (cap := 2 * 1) (e := 23) (l := [by_]) (by simp)
  have hg2 := intsG (b := b36) (cap := 2 * 1) (e := 3) (l := [at_]) (by simp)
  refine ⟨_, ⟨some ⟨b34, 0, none⟩, 1, 2 * 1⟩, ⟨some ⟨b36, 0, none⟩, 1, 2 * 1⟩, [by_], [at_], rfl, H.up (by omega), hg1.mono ?_, hg2.mono ?_, by simp, by simp⟩
  ·intro p hp
   rw [List.mem_singleton] at hp
   subst hp
   simp only [yo, List.map_cons, List.map_nil, List.mem_cons, true_or, or_true]
  ·intro p hp
   rw [List.mem_singleton] at hp
   subst hp
   simp only [yo, List.map_cons, List.map_nil, List.mem_cons, true_or, or_true]
 refine za rfl (zw rfl rfl (zb (zv rfl (zD (zj (ze (za rfl (zf rfl (za rfl (zf rfl (za rfl (zy rfl fc10 rfl ?_))))))))))))
 obtain ⟨_, _, hr, rfl, rfl⟩ := qS (a := at_) (n := (ks.length : Int)) hI i2 (by omega)
 refine ⟨_, _, hr, ?_⟩
 clear hr
 have hkr := xH (a := at_) (n := (ks.length : Int)) (by omega)
 obtain ⟨m, hme⟩ : ∃ m : Nat, xq at_ (ks.length : Int) = (m : Int) := ⟨(xq at_ (ks.length : Int)).toNat, by omega⟩
 have hm : m < ks.length := by omega
 rw [hme]
 refine za rfl (zk rfl (zb (zx (ze (za rfl (zf rfl (za rfl (zy rfl fc10 rfl ?_))))))))
 obtain ⟨_, _, hr, rfl, rfl⟩ := qS (a := how) (n := 6) hI i1 (by decide)
 refine ⟨_, _, hr, ?_⟩
 clear hr
 refine zb (zL (ze (za rfl (yJ rfl rfl (fun h => ?_) (fun h => ?_)))))
 ·refine za rfl (zr rfl (zb (zq rfl (zF (za rfl (zg xf rfl (za rfl (zl yW rfl H.own0 rfl (za rfl (zf rfl (za rfl (zf rfl (za rfl (zB xP rfl rfl (by omega) (by omega) ?_))))))))))))))
  obtain ⟨l3, hput3, hlen3⟩ := qI m [by_] ns (by simp only [List.length_cons, List.length_nil, List.length_drop]; omega)
  refine za rfl (qp (c' := yo l3) H sz3 rfl rfl rfl rfl (by rw [Nat.zero_add, Nat.mul_one, Int.toNat_natCast]; exact hput3) (by omega) (fun s33 H => ?_))
  refine zb (zP (zj (ze (za rfl (ya sh40 rfl H.own0 rfl (za rfl (qO (vs := [.slice _ _ _, .slice _ _ _]) H sz40 rfl rfl rfl rfl rfl (by omega) (fun s10 H => ?_))))))))
  refine zb (zu (zp (yU sh40 rfl H.own3 rfl ?_)))
  have hg1 := intsG (b := b15) (cap := cap15) (e := 23) (l := ks) (by omega)
  have hg2 := intsG (b := b19) (cap := cap19) (e := 3) (l := l3) (by omega)
  rw [hlen3] at hg2
  refine ⟨_, ⟨some ⟨b15, 0, none⟩, ks.length, cap15⟩, ⟨some ⟨b19, 0, none⟩, ns.length, cap19⟩, ks, l3, rfl, H.up (by omega), hg1.mono ?_, hg2.mono ?_, (by omega), (by omega)⟩
  ·intro p hp
   rw [List.mem_singleton] at hp
   subst hp
   simp only [List.mem_cons, true_or, or_true]
  ·intro p hp
   rw [List.mem_singleton] at hp
   subst hp
   simp only [List.mem_cons, true_or, or_true]
 refine za rfl (zr rfl (zb (zv rfl (ze (za rfl (yJ rfl rfl (fun h => ?_) (fun h => ?_)))))))
 ·refine za rfl (zr rfl (zb (zq rfl (cw_draw [⟨0, 0, .light, [4, 7]⟩, ⟨1, 1, .light, [4, 7]⟩, ⟨2, 0, .light, [1, 4, 7]⟩, ⟨3, 0, .light, [1]⟩, ⟨4, 8, .light, [1]⟩, ⟨5, 0, .light, [1, 4]⟩, ⟨6, 56, .light, [1]⟩, ⟨7, 120, .light, [1]⟩, ⟨8, 248, .light, [1]⟩, ⟨9, 511, .light, []⟩, ⟨10, 1023, .whole, []⟩] (by kernel_rfl) (by kernel_rfl) (zd rfl rfl (zg xf rfl ⟨rfl, (zG rfl rfl yW rfl H.own0 (by exact H.lim0 (by omega)) rfl (zd rfl rfl (zf rfl ⟨rfl, (zd rfl rfl (zg xf rfl ⟨rfl, (zG rfl rfl yW rfl H.own0 (by exact H.lim0 (by omega)) rfl (zd rfl rfl (zf rfl ⟨rfl, (zd rfl rfl (zB xP rfl rfl (by omega) (by omega) ⟨rfl, (zG rfl rfl sh3 rfl H.own1 (H.lim1 (by omega)) (by rw [Nat.zero_add, Nat.mul_one, Int.toNat_natCast]; exact lget_ints (by omega)) ?_)⟩))⟩)))⟩))⟩)))⟩))))))
  refine zd rfl rfl (op_addX rfl rfl (fun r9 => ⟨rfl, ?_⟩))
  refine zd rfl rfl (zB xP rfl rfl (by omega) (by omega) ⟨rfl, ?_⟩)
  obtain ⟨l3, hput3, hlen3⟩ := qI m [r9] ns (by simp only [List.length_cons, List.length_nil, List.length_drop]; omega)
  refine dr_store1 (c' := yo l3) (fr := []) H rfl rfl sz3 rfl rfl rfl rfl (by rw [Nat.zero_add, Nat.mul_one, Int.toNat_natCast]; exact hput3) rfl (by intro p hp; cases hp) (by omega) (fun s33 H => ?_)
  refine zV (zP (zj (ze (za rfl (ya sh40 rfl H.own0 rfl (za rfl (qO (vs := [.slice _ _ _, .slice _ _ _]) H sz40 rfl rfl rfl rfl rfl (by omega) (fun s11 H => ?_))))))))
  refine zb (zu (zp (yU sh40 rfl H.own3 rfl ?_)))
  have hg1 := intsG (b := b15) (cap := cap15) (e := 23) (l := ks) (by omega)
  have hg2 := intsG (b := b19) (cap := cap19) (e := 3) (l := l3) (by omega)
  rw [hlen3] at hg2
  refine ⟨_, ⟨some ⟨b15, 0, none⟩, ks.length, cap15⟩, ⟨some ⟨b19, 0, none⟩, ns.length, cap19⟩, ks, l3, rfl, H.up (by omega), hg1.mono ?_, hg2.mono ?_, (by omega), (by omega)⟩
  ·intro p hp
   rw [List.mem_singleton] at hp
   subst hp
   simp only [List.mem_cons, true_or, or_true]
  ·intro p hp
   rw [List.mem_singleton] at hp
   subst hp
   simp only [List.mem_cons, true_or, or_true]
 refine za rfl (zr rfl (zb (zv rfl (ze (za rfl (yJ rfl rfl (fun h => ?_) (fun h => ?_)))))))
 ·refine za rfl (zr rfl (zb (zq rfl (zF (za rfl (zg xo rfl (za rfl (zl qe rfl H.own0 rfl (za rfl (zf rfl (za rfl (zf rfl (za rfl (zB qL rfl rfl (by omega) (by omega) ?_))))))))))))))
  obtain ⟨l3, hput3, hlen3⟩ := qI m [by_] ks (by simp only [List.length_cons, List.length_nil, List.length_drop]; omega)
  refine za rfl (qP (c' := yo l3) H sz23 rfl rfl rfl rfl (by rw [Nat.zero_add, Nat.mul_one, Int.toNat_natCast]; exact hput3) (by omega) (fun s33 H => ?_))
  refine zb (zP (zj (ze (za rfl (ya sh40 rfl H.own0 rfl (za rfl (qO (vs := [.slice _ _ _, .slice _ _ _]) H sz40 rfl rfl rfl rfl rfl (by omega) (fun s12 H => ?_))))))))
  refine zb (zu (zp (yU sh40 rfl H.own3 rfl ?_)))
  have hg1 := intsG (b := b15) (cap := cap15) (e := 23) (l := l3) (by omega)
  rw [hlen3] at hg1
  have hg2 := intsG (b := b19) (cap := cap19) (e := 3) (l := ns) (by omega)
  refine ⟨_, ⟨some ⟨b15, 0, none⟩, ks.length, cap15⟩, ⟨some ⟨b19, 0, none⟩, ns.length, cap19⟩, l3, ns, rfl, H.up (by omega), hg1.mono ?_, hg2.mono ?_, (by omega), (by omega)⟩
  ·intro p hp
   rw [List.mem_singleton] at hp
   subst hp
   simp only [List.mem_cons, true_or, or_true]
  ·intro p hp
   rw [List.mem_singleton] at hp
   subst hp
   simp only [List.mem_cons, true_or, or_true]
 refine za rfl (zr rfl (zb (zv rfl (ze (za rfl (yJ rfl rfl (fun h => ?_) (fun h => ?_)))))))
 ·refine za rfl (zr rfl (zb (zq rfl (zF (za rfl (zg xf rfl (za rfl (zl yW rfl H.own0 rfl (za rfl (zf rfl (za rfl (xm rfl rfl (by unfold zS; omega) (za rfl (op_sliceHi (m := ks.length - 1) sl22 rfl rfl (by show ((ks.length : Nat) : Int) - 1 = _; omega) H.own1 (by omega) (za rfl (zg xf rfl (za rfl (zX (vs := [.slice _ _ _]) H sz22 rfl rfl rfl rfl rfl (by omega) (fun s13 H => ?_)))))))))))))))))))
  refine zb (zP (zj (ze (za rfl (ya sh40 rfl H.own0 rfl (za rfl (qO (vs := [.slice _ _ _, .slice _ _ _]) H sz40 rfl rfl rfl rfl rfl (by omega) (fun s14 H => ?_))))))))
  refine zb (zu (zp (yU sh40 rfl H.own3 rfl ?_)))
  have hg1 := intsG (b := b15) (cap := cap15) (e := 23) (l := ks) (by omega)
  have hg2 := intsG (b := b19) (cap := cap19) (e := 3) (l := ns) (by omega)
  have hg2 := hg2.take (m := ks.length - 1) (by simp; omega)
  rw [← List.map_take] at hg2
  refine ⟨_, ⟨some ⟨b15, 0, none⟩, ks.length, cap15⟩, ⟨some ⟨b19, 0, none⟩, (ks.length - 1), cap19⟩, ks, (ns.take (ks.length - 1)), rfl, H.up (by omega), hg1.mono ?_, hg2.mono ?_, (by omega), (by (simp only [List.length_take]; omega))⟩
  ·intro p hp
   rw [List.mem_singleton] at hp
   subst hp
   simp only [List.mem_cons, true_or, or_true]
  ·intro p hp
   rw [List.mem_singleton] at hp
   subst hp
   simp only [List.mem_cons, true_or, or_true]
 refine za rfl (zr rfl (zb (zv rfl (ze (za rfl (yJ rfl rfl (fun h => ?_) (fun h => ?_)))))))
 ·refine za rfl (zr rfl (zb (zq rfl (yy [⟨0, 0, .light, [5]⟩, ⟨1, 1, .light, [5]⟩, ⟨2, 0, .light, [1, 5]⟩, ⟨4, 0, .light, [1]⟩, ⟨5, 16, .light, [1]⟩, ⟨6, 0, .light, [1, 5]⟩, ⟨7, 64, .light, [1, 5]⟩, ⟨3, 7, .fresh, [5]⟩, ⟨8, 240, .fresh, [1]⟩, ⟨9, 511, .whole, []⟩, ⟨10, 1023, .light, []⟩, ⟨11, 2047, .whole, []⟩] (by kernel_rfl) (by kernel_rfl) (zd rfl rfl (zg xo rfl ⟨rfl, (zG rfl rfl qe rfl H.own0 (by exact H.lim0 (by omega)) rfl (zd rfl rfl (zf rfl ⟨rfl, (zd rfl rfl (zg xo rfl ⟨rfl, (zG rfl rfl qe rfl H.own0 (by exact H.lim0 (by omega)) rfl (zd rfl rfl (zf rfl ⟨rfl, (zd rfl rfl (zZ rfl rfl (by unfold zS; omega) ⟨rfl, (qm rfl rfl (op_sliceHi (m := m) sl31 rfl rfl rfl H.own2 (by omega) ⟨rfl, ?_⟩))⟩))⟩)))⟩))⟩)))⟩))))))
  refine qm rfl rfl (op_sliceLo (m := m + 1) sl31 rfl rfl (by omega) H.own2 (by omega) (by omega) (fun off16 cap16 hof16 hcp16 => ⟨rfl, ?_⟩))
  have hsl16 := Sl.dropS (m := m + 1) (off' := off16) (cap' := cap16) ((intsG (b := b15) (cap := cap15) (e := 23) (l := ks) (by omega)).sl H (by intro p hp; rw [List.mem_singleton] at hp; subst hp; simp only [List.mem_cons, true_or, or_true])) (by simp) (by omega) (fun h => hof16 h) hcp16
  rw [← List.map_drop] at hsl16
  have hel16 := hsl16.elemsI
  rw [List.length_drop] at hel16
  obtain ⟨l3, hput3, hlen3⟩ := qI m (ks.drop (m + 1)) ks (by simp only [List.length_cons, List.length_nil, List.length_drop]; omega)
  refine dr_appendIn [_, _] rfl rfl rfl H sl31 un31 rfl rfl rfl hel16 (by omega) (ints_plain _) (by rw [Nat.zero_add, Nat.mul_one]; exact hput3) (by omega) (fun s16 H => ?_)
  simp only [List.cons_append, List.nil_append] at H
  refine zd rfl rfl (zg xo rfl ⟨rfl, (qR (vs := [.slice _ _ _]) (fr := []) H rfl rfl sz31 rfl rfl rfl rfl rfl rfl (by have hd := H.dist; simp only [List.pairwise_cons, List.mem_cons, List.not_mem_nil, or_false, forall_eq_or_imp, forall_eq, false_imp_iff, implies_true] at hd ⊢; try omega) (by omega) (fun s15 H => ?_))⟩)
  refine zV (cw_draw [⟨0, 0, .light, [5]⟩, ⟨1, 1, .light, [5]⟩, ⟨2, 0, .light, [1, 5]⟩, ⟨4, 0, .light, [1]⟩, ⟨5, 16, .light, [1]⟩, ⟨6, 0, .light, [1, 5]⟩, ⟨7, 64, .light, [1, 5]⟩, ⟨3, 7, .fresh, [5]⟩, ⟨8, 240, .fresh, [1]⟩, ⟨9, 511, .whole, []⟩, ⟨10, 1023, .light, []⟩, ⟨11, 2047, .whole, []⟩] (by kernel_rfl) (by kernel_rfl) (zd rfl rfl (zg xf rfl ⟨rfl, (zG rfl rfl yW rfl H.own0 (by exact H.lim0 (by omega)) rfl (zd rfl rfl (zf rfl ⟨rfl, (zd rfl rfl (zg xf rfl ⟨rfl, (zG rfl rfl yW rfl H.own0 (by exact H.lim0 (by omega)) rfl (zd rfl rfl (zf rfl ⟨rfl, (zd rfl rfl (zZ rfl rfl (by unfold zS; omega) ⟨rfl, (qm rfl rfl (op_sliceHi (m := m) sl22 rfl rfl rfl H.own1 (by omega) ⟨rfl, (qm rfl rfl (op_sliceLo (m := m + 1) sl22 rfl rfl (by omega) H.own1 (by omega) (by omega) (fun off17 cap17 hof17 hcp17 => ⟨rfl, ?_⟩)))⟩))⟩))⟩)))⟩))⟩)))⟩)))
  have hsl17 := Sl.dropS (m := m + 1) (off' := off17) (cap' := cap17) ((intsG (b := b19) (cap := cap19) (e := 3) (l := ns) (by omega)).sl H (by intro p hp; rw [List.mem_singleton] at hp; subst hp; simp only [List.mem_cons, true_or, or_true])) (by simp) (by omega) (fun h => hof17 h) hcp17
  rw [← List.map_drop] at hsl17
  have hel17 := hsl17.elemsI
  rw [List.length_drop] at hel17
  obtain ⟨l4, hput4, hlen4⟩ := qI m (ns.drop (m + 1)) ns (by simp only [List.length_cons, List.length_nil, List.length_drop]; omega)
  refine dr_appendIn [_] rfl rfl rfl H sl22 xE rfl rfl rfl hel17 (by omega) (ints_plain _) (by rw [Nat.zero_add, Nat.mul_one]; exact hput4) (by omega) (fun s17 H => ?_)
  simp only [List.cons_append, List.nil_append] at H
  refine zd rfl rfl (zg xf rfl ⟨rfl, (qR (vs := [.slice _ _ _]) (fr := []) H rfl rfl sz22 rfl rfl rfl rfl rfl rfl (by have hd := H.dist; simp only [List.pairwise_cons, List.mem_cons, List.not_mem_nil, or_false, forall_eq_or_imp, forall_eq, false_imp_iff, implies_true] at hd ⊢; try omega) (by omega) (fun s16 H => ?_))⟩)
  refine zV (zP (zj (ze (za rfl (ya sh40 rfl H.own0 rfl (za rfl (qO (vs := [.slice _ _ _, .slice _ _ _]) H sz40 rfl rfl rfl rfl rfl (by omega) (fun s17 H => ?_))))))))
  refine zb (zu (zp (yU sh40 rfl H.own3 rfl ?_)))
  have hg1 := intsG (b := b15) (cap := cap15) (e := 23) (l := l3) (by omega)
  rw [hlen3] at hg1
  have hg1 := hg1.take (m := (m + (ks.length - (m + 1)))) (by simp; omega)
  rw [← List.map_take] at hg1
  have hg2 := intsG (b := b19) (cap := cap19) (e := 3) (l := l4) (by omega)
  rw [hlen4] at hg2
  have hg2 := hg2.take (m := (m + (ns.length - (m + 1)))) (by simp; omega)
  rw [← List.map_take] at hg2
  refine ⟨_, ⟨some ⟨b15, 0, none⟩, (m + (ks.length - (m + 1))), cap15⟩, ⟨some ⟨b19, 0, none⟩, (m + (ns.length - (m + 1))), cap19⟩, (l3.take (m + (ks.length - (m + 1)))), (l4.take (m + (ns.length - (m + 1)))), rfl, H.up (by omega), hg1.mono ?_, hg2.mono ?_, (by (simp only [List.length_take]; omega)), (by (simp only [List.length_take]; omega))⟩
  ·intro p hp
   rw [List.mem_singleton] at hp
   subst hp
   simp only [List.mem_cons, true_or, or_true]
  ·intro p hp
   rw [List.mem_singleton] at hp
   subst hp
   simp only [List.mem_cons, true_or, or_true]
 refine za rfl (zr rfl (zb (zv rfl (ze (za rfl (yJ rfl rfl (fun h => ?_) (fun h => ?_)))))))
 ·refine za rfl (zr rfl (zb (zq rfl (cw_draw [⟨0, 0, .light, [4, 7]⟩, ⟨1, 1, .light, [4, 7]⟩, ⟨2, 0, .light, [1, 4, 7]⟩, ⟨3, 0, .light, [1]⟩, ⟨4, 8, .light, [1]⟩, ⟨5, 0, .light, [1, 4]⟩, ⟨6, 56, .light, [1]⟩, ⟨7, 120, .light, [1]⟩, ⟨8, 248, .light, [1]⟩, ⟨9, 511, .light, []⟩, ⟨10, 1023, .whole, []⟩] (by kernel_rfl) (by kernel_rfl) (zd rfl rfl (zg xf rfl ⟨rfl, (zG rfl rfl yW rfl H.own0 (by exact H.lim0 (by omega)) rfl (zd rfl rfl (zf rfl ⟨rfl, (zd rfl rfl (zg xf rfl ⟨rfl, (zG rfl rfl yW rfl H.own0 (by exact H.lim0 (by omega)) rfl (zd rfl rfl (zf rfl ⟨rfl, (zd rfl rfl (zB xP rfl rfl (by omega) (by omega) ⟨rfl, (zG rfl rfl sh3 rfl H.own1 (H.lim1 (by omega)) (by rw [Nat.zero_add, Nat.mul_one, Int.toNat_natCast]; exact lget_ints (by omega)) ?_)⟩))⟩)))⟩))⟩)))⟩))))))
  refine zd rfl rfl (op_subX rfl rfl (fun r9 => ⟨rfl, ?_⟩))
  refine zd rfl rfl (zB xP rfl rfl (by omega) (by omega) ⟨rfl, ?_⟩)
  obtain ⟨l3, hput3, hlen3⟩ := qI m [r9] ns (by simp only [List.length_cons, List.length_nil, List.length_drop]; omega)
  refine dr_store1 (c' := yo l3) (fr := []) H rfl rfl sz3 rfl rfl rfl rfl (by rw [Nat.zero_add, Nat.mul_one, Int.toNat_natCast]; exact hput3) rfl (by intro p hp; cases hp) (by omega) (fun s33 H => ?_)
  refine zV (zP (zj (ze (za rfl (ya sh40 rfl H.own0 rfl (za rfl (qO (vs := [.slice _ _ _, .slice _ _ _]) H sz40 rfl rfl rfl rfl rfl (by omega) (fun s18 H => ?_))))))))
  refine zb (zu (zp (yU sh40 rfl H.own3 rfl ?_)))
  have hg1 := intsG (b := b15) (cap := cap15) (e := 23) (l := ks) (by omega)
  have hg2 := intsG (b := b19) (cap := cap19) (e := 3) (l := l3) (by omega)
  rw [hlen3] at hg2
  refine ⟨_, ⟨some ⟨b15, 0, none⟩, ks.length, cap15⟩, ⟨some ⟨b19, 0, none⟩, ns.length, cap19⟩, ks, l3, rfl, H.up (by omega), hg1.mono ?_, hg2.mono ?_, (by omega), (by omega)⟩
  ·intro p hp
   rw [List.mem_singleton] at hp
   subst hp
   simp only [List.mem_cons, true_or, or_true]
  ·intro p hp
   rw [List.mem_singleton] at hp
   subst hp
   simp only [List.mem_cons, true_or, or_true]
 refine za rfl (zr rfl (zb (zv rfl (zD (zP (zj ?_))))))
 exfalso
 have := xH (a := how) (n := 6) (by decide)
 omega
end Go.Proofs.YtdejleegamcioaaGreat
namespace Go.Proofs.YtdejleegamcioaaGreat
open Go Go.M
theorem open_list {W : List Nat} {s0 s : St} {L : Hp'} {n m : Nat} (H : HL W s0 s L n) (h : n ≤ m) : ∃ LL N, LL = L ∧ N ≤ m ∧ HL W s0 s LL N := ⟨L, n, rfl, h, H⟩
theorem SlG.isSlice {D : Hp'} {e : TypeId} {sz : Nat} {v : Value} {es : List (List Value)} (h : SlG D e sz v es) : ∃ a len cap, v = .slice a len cap ∧ len = es.length := by
 cases h with
 | nil c hv hl => exact ⟨_, _, _, hv, by rw [hl]; rfl⟩
 | block b off cap c hv => exact ⟨_, _, _, hv, rfl⟩
theorem SlG.shp {α : Type} {f : α → List Value} {D : Hp'} {e : TypeId} {sz : Nat} {v : Value} {l : List α} (h : SlG D e sz v (l.map f)) : ∃ a c, v = .slice a l.length c := by
 obtain ⟨a, n, c, h1, h2⟩ := h.isSlice
 rw [List.length_map] at h2
 exact ⟨a, c, by rw [h1, h2]⟩
section
variable {js : List (Int × Int)} {bad : Int} {may : List Sp} {w : Int}
theorem tk_mem (hm : y0 may) : ∀ (f : Nat) (S : Int), 0 < S → (bb js bad may S).1 < 65536 → ∀ x ∈ tk js bad may f S, x ∈ may
 | 0, _, _, _ => fun x hx => by simp [tk] at hx
 | f + 1, S, h0, hl => fun x hx => by
  rw [tk] at hx
  split at hx
  ·next hp =>
   obtain ⟨l1, l2, h1, h2, h3, _⟩ := bb_first (js := js) (bad := bad) hm h0 hp hl
   have hmem : (bb js bad may S).2 ∈ may := List.mem_of_getElem? (at_split h1)
   obtain ⟨ha, hb⟩ := hm _ hmem
   have hs := yP ha hb
   rw [h2] at hs
   have r1 := yR (js := js) (bad := bad) (may := may) (bb js bad may S).2.p
   have r2 := yR (js := js) (bad := bad) (may := may) (zI S (bb js bad may S).2.p)
   rcases List.mem_cons.mp hx with e | hx
   ·rw [e]; exact hmem
   ·rcases List.mem_append.mp hx with hx | hx
    ·exact tk_mem hm f _ hs.1 (by omega) x hx
    ·exact tk_mem hm f _ hs.2.2.1 (by omega) x hx
  ·simp at hx
theorem LIs.small (hm : y0 may) (h0 : 0 < w) (h63 : w ≤ 63) {o : LOut} (h : LIs js bad may w o) : (∀ x ∈ o.x, x ∈ may) ∧ o.x.length ≤ 5 ∧ o.ks.length ≤ 65535 ∧ o.ns.length ≤ 65535 := by
 rcases h with ⟨_, h⟩ | ⟨_, _, h⟩ | ⟨h1, h2, h3, h4, h5, h6, _, _⟩
 ·rw [h]; simp
 ·rw [h]; simp
 ·have hl := tk_len (js := js) (bad := bad) hm (w.toNat + 1) w h0 (by omega) h2
  have h5' := bb_five (js := js) (bad := bad) hm h0 h63 h2
  have hk := rch_len hm h0 (by omega) h3 (fun x hx => (h4 x).mp hx)
  refine ⟨?_, ?_, hk, ?_⟩
  ·rw [h6]; exact tk_mem hm _ _ h0 h2
  ·rw [h6]; omega
  ·rw [h5, List.length_map]; exact hk
end
theorem us_of {LL : Hp'} {s1 : St} {js : List (Int × Int)} {may l : List Sp} {vj vm vl : Value} (hj : SlG LL 30 2 vj (js.map jc)) (hm : SlG LL 62 10 vm (may.map Sp.cells)) (hl : SlG LL 62 10 vl (l.map Sp.cells)) (hmd : ∀ x ∈ may, DirIn LL x) (hld : ∀ x ∈ l, DirIn LL x) {W : List Nat} {s0 : St} {L : Hp'} {n : Nat} (H : HL W s0 s1 L n) (hs : LL ⊆ L) : UsSt s1 (dgt LL) vj vm vl js may l :=
 ⟨hj.sl H hs, hm.sl H hs, hl.sl H hs, fun x hx => ⟨(hmd x hx).dig H hs, (hmd x hx).1, (hmd x hx).2.1⟩, fun x hx => ⟨(hld x hx).dig H hs, (hld x hx).1, (hld x hx).2.1⟩⟩
theorem tc14 {n : Nat} (h : n ≤ 14) : tc n ≤ 10000000 := Nat.le_trans (tc_mono h) (by decide)
end Go.Proofs.YtdejleegamcioaaGreat
