/- Operations over a map's iterator, between operations of this machine. -/
/- undo.Least: the loop over the map. -/
/- undo.Least: a round of the loop over the map. -/
/- undo.Least: the rounds of the loop over the map. -/
/- undo.Least: the segment (the loop over the map, and the sort) stands for segS. -/
import Derived.Test.YtdejleegamcioaaGreatP21
import Derived.Maps.RangeRun
namespace Go.M
variable {P : Program} {β β₁ : Ren} {s s₁ : St} {w w₁ : World}
structure Acc (P : Program) (β₁ : Ren) (s₁ : St) (w₁ : World) (it : Nat) (o : Obj) (β : Ren) (s : St) (w : World) : Prop where
 ext : Ext P β₁ s₁ w₁ β s w
 cell : w.heap[it]? = some o
 young : w₁.heap.size ≤ it
 no : ∀ b m o, β b = some m → b < s.next → s.get b = some o → m.blk ≠ it
theorem Acc.lt {it : Nat} {o : Obj} (A : Acc P β₁ s₁ w₁ it o β s w) : it < w.heap.size := by
 rcases Nat.lt_or_ge it w.heap.size with h | h
 ·exact h
 ·have := A.cell
  rw [Array.getElem?_eq_none h] at this
  cases this
theorem Acc.step {it : Nat} {o : Obj} (A : Acc P β₁ s₁ w₁ it o β s w) {β' : Ren} {s' : St} {w' : World} (h : Ext P β s w β' s' w') (hf : Free β₁ s₁ s') : Acc P β₁ s₁ w₁ it o β' s' w' where
 ext := A.ext.trans h hf
 cell := by
  rw [h.out it A.lt fun b m o hb hlt _ hg => A.no b m o hb hlt hg]
  exact A.cell
 young := A.young
 no := fun b m o' hb hlt hg => by
  have hfr : Free β s s' := A.ext.freeOf hf
  cases hb0 : β b with
  | some m0 =>
   have e := h.le b m0 hb0
   rw [hb] at e
   cases e
   have hlt0 : b < s.next := Classical.byContradiction fun hc => by
    rw [hfr b (by omega) hlt] at hb0; cases hb0
   cases hg0 : s.get b with
   | none => rw [h.dead b hlt0 hg0] at hg; cases hg
   | some o0 => exact A.no b m o0 hb0 hlt0 hg0
  | none =>
   rcases h.fresh b m hb hb0 with e | ⟨b₀, m₀, o₀, g1, g2, g3, g4, g5⟩
   ·have := A.lt; omega
   ·rw [← g5]; exact A.no b₀ m₀ o₀ g1 g2 g4
theorem Acc.turn {it : Nat} {o o' : Obj} (A : Acc P β₁ s₁ w₁ it o β s w) {w' : World} (hsize : w'.heap.size = w.heap.size) (hsame : ∀ r, r ≠ it → w'.heap[r]? = w.heap[r]?) (hc : w'.heap[it]? = some o') (hos : w'.os = w.os) (hout : w'.output = w.output) (htape : w'.tape = w.tape) :
  Acc P β₁ s₁ w₁ it o' β s w' :=
 ⟨A.ext.touch A.young A.no hsize hsame hos hout htape, hc, A.young, A.no⟩
section
variable {ops : Array Oper} {rest : List Oper} {o : Oper} {a : Fr} {a' : Act} {Q : Exit → Act → World → Prop}
theorem wl_val {v : Value} {w' : World} (hg : o.guard = none) (hrun : (execOp a'.eval o).run P w = .ok (.value v) w') (k : wpList P ops Q rest (a'.put o.dst v) w') : wpList P ops Q (o :: rest) a' w := by
 refine wpList_plain hg fun K hK => ?_
 unfold Oper.wp
 rw [hrun]
 exact hK _ _ k
theorem exec_range {t k e : TypeId} {m : Operand} {bm : Nat} {es : Array MapEntry} {clock : Nat} (hop : o.op = .range t m) (hm : a'.eval m = .map (some bm)) (ht : P.underlying t = some (.map k e)) (hb : w.heap[bm]? = some (.map es clock)) :
  (execOp a'.eval o).run P w = .ok (.value (.pointer (some ⟨w.heap.size, 0, none⟩))) (w.alloc (.mapIter (some bm) clock #[] clock)) := by
 have := run_range_map (P := P) w t k e bm es clock ht hb
 simp [execOp, hop, hm, this, Result.andThen]
theorem exec_next {it : Operand} {v r : Value} {w' : World} (hop : o.op = .next it false) (hi : a'.eval it = v) (hr : (Instr.next v false o.type).run P w = .ok r w') : (execOp a'.eval o).run P w = .ok (.value r) w' := by
 simp [execOp, hop, hi, hr, Result.andThen]
theorem exec_entry {it : Operand} {v r : Value} {w' : World} (hop : o.op = .entry it) (hi : a'.eval it = v) (hr : (Instr.entry v).run P w = .ok r w') : (execOp a'.eval o).run P w = .ok (.value r) w' := by
 simp [execOp, hop, hi, hr, Result.andThen]
theorem wl_pure (hmix : P.follows .mixedOrders = true) {it : Nat} {ob : Obj} {a₁ : Fr} (hg : o.guard = none) (hok : o.op.operands.toList.all qg = true) (A : Acc P β₁ s₁ w₁ it ob β s w) (hf : FRel P β a a') (hr : opM P (callM P (fun _ => none) 0) o a s = .normal a₁ s) (hfree : Free β₁ s₁ s)
  (k : ∀ β' w' a₁', β.le β' → Acc P β₁ s₁ w₁ it ob β' s w' → FRel P β' a₁ a₁' → wpList P ops Q rest a₁' w') : wpList P ops Q (o :: rest) a' w := by
 refine wpList_plain hg fun K hK => ?_
 rw [List.all_eq_true] at hok
 refine qA (call_ok hmix xr 0) A.ext.rel (fun x hx => hf.eval (hok x hx)) (by rw [hr]; simp) (by rw [hr]; exact A.ext.freeOf hfree) K Q (fun v v' s' β' w' e hx hv => ?_) (fun chain chain' s' β' w' e => by rw [hr] at e; cases e)
 rw [hr] at e
 simp only [Out.normal.injEq] at e
 obtain ⟨rfl, rfl⟩ := e
 exact hK _ _ (k β' w' _ hx.le (A.step hx hfree) ((hf.mono hx.le).put o.dst hv))
theorem wl_first (hmix : P.follows .mixedOrders = true) {a₁ : Fr} (hg : o.guard = none) (hok : o.op.operands.toList.all qg = true) (h : Rel P β s w) (hf : FRel P β a a') (hr : opM P (callM P (fun _ => none) 0) o a s = .normal a₁ s) (hfree : Free β s s)
  (k : ∀ β' w' a₁', Ext P β s w β' s w' → FRel P β' a₁ a₁' → wpList P ops Q rest a₁' w') : wpList P ops Q (o :: rest) a' w := by
 refine wpList_plain hg fun K hK => ?_
 rw [List.all_eq_true] at hok
 refine qA (call_ok hmix xr 0) h (fun x hx => hf.eval (hok x hx)) (by rw [hr]; simp) (by rw [hr]; exact hfree) K Q (fun v v' s' β' w' e hx hv => ?_) (fun chain chain' s' β' w' e => by rw [hr] at e; cases e)
 rw [hr] at e
 simp only [Out.normal.injEq] at e
 obtain ⟨rfl, rfl⟩ := e
 exact hK _ _ (k β' w' _ hx ((hf.mono hx.le).put o.dst hv))
end
end Go.M
namespace Go.Proofs.YtdejleegamcioaaGreat
open Go Go.M
open Go.ChangeMaps (setBlock)
theorem segS_spec {v13 v16 : Value} {s s2 : St} (h : segS v13 v16 s = some s2) : ∃ bK b16 r eK v2 es clock ks, v13 = ptr bK ∧ v16 = ptr b16 ∧ s.get bK = some (.cells [.map (some r)] eK) ∧ s.get b16 = some (.cells [.slice none 0 0, v2] 36) ∧ s.get r = some (.map es clock) ∧
  keysL es.toList 0 = some ks ∧ clock = es.size ∧ s.may b16 = true ∧ s.next + 2 * es.size < 281474976710655 ∧ 0 < es.size ∧ es.size < 1000000 ∧
  s2 = ({ s with next := s.next + 2 * es.size }.new (.cells (z7 (yp ks)) 23)).put b16 (some (.cells [.slice (some ⟨s.next + 2 * es.size, 0, none⟩) es.size (2 * es.size + 1), v2] 36)) := by
 unfold segS at h
 split at h
 ·next bK b16 =>
  split at h
  ·next r eK v2 h1 h2 =>
   split at h
   ·next es clock h3 =>
    split at h
    ·next ks hk hb =>
     simp only [Bool.and_eq_true, Nat.blt_eq] at hb
     obtain ⟨⟨⟨⟨⟨g1, g2⟩, g3⟩, g4⟩, g5⟩, g6⟩ := hb
     cases h
     exact ⟨bK, b16, r, eK, v2, es, clock, ks, rfl, rfl, h1, h2, h3, hk, Nat.eq_of_beq_eq_true g1, g2, g3, g4, g5, rfl⟩
    ·cases h
   ·cases h
  ·cases h
 ·cases h
theorem keysL_spec : ∀ {l : List MapEntry} {i : Nat} {ks : List Int}, keysL l i = some ks → ks.length = l.length ∧ ∀ j e, l[j]? = some e → e.born = i + j ∧ e.key = .int .i64 (ks.getD j 0)
 | [], i, ks, h => by cases h; exact ⟨rfl, fun j e he => by simp at he⟩
 | e :: l, i, ks, h => by
  unfold keysL at h
  split at h
  ·next k hk =>
   split at h
   ·next r hb hr =>
    cases h
    obtain ⟨h1, h2⟩ := keysL_spec hr
    refine ⟨by simp [h1], fun j e' he => ?_⟩
    cases j with
    | zero =>
     simp only [List.getElem?_cons_zero, Option.some.injEq] at he
     subst he
     exact ⟨Nat.eq_of_beq_eq_true hb, by simpa using hk⟩
    | succ j =>
     simp only [List.getElem?_cons_succ] at he
     obtain ⟨g1, g2⟩ := h2 j e' he
     exact ⟨by omega, by simpa using g2⟩
   ·cases h
  ·cases h
theorem seen_len {n : Nat} {l : List Nat} (hn : l.Nodup) (h : ∀ i ∈ l, i < n) : l.length ≤ n := by
 have := nodup_len n (l.map fun (i : Nat) => ((i : Int) + 1)) (by
  rw [List.nodup_iff_pairwise_ne, List.pairwise_map]
  exact (List.nodup_iff_pairwise_ne.mp hn).imp fun h => by omega) (by
  intro x hx
  obtain ⟨i, hi, rfl⟩ := List.mem_map.mp hx
  have := h i hi
  omega)
 simpa using this
theorem seen_perm {n : Nat} {l : List Nat} (hn : l.Nodup) (h : ∀ i ∈ l, i < n) (hall : ∀ i, i < n → i ∈ l) : l.Perm (List.range n) :=
 (List.perm_ext_iff_of_nodup hn List.nodup_range).mpr fun i => ⟨fun hi => List.mem_range.mpr (h i hi), fun hi => hall i (List.mem_range.mp hi)⟩
theorem map_range (ks : List Int) : (List.range ks.length).map (fun i => ks.getD i 0) = ks := by
 apply List.ext_getElem
 ·simp
 ·intro i h1 h2
  simp [h2]
def outK (ks : List Int) (seen : Array Nat) : List Int := seen.toList.map fun i => ks.getD i 0
structure Inv (β₁ : Go.M.Ren) (t1 : St) (w₁ : World) (a₁ : Fr) (b16 : Nat) (v2 : Value) (ks : List Int) (it bm : Nat) (seen : Array Nat) (β : Go.M.Ren) (s : St) (a : Fr) (a' : Act) (w : World) : Prop where
 acc : Acc Tryz.prog β₁ t1 w₁ it (.mapIter (some bm) ks.length seen ks.length) β s w
 mid : Mid t1 b16 v2 (outK ks seen) s
 fr : FRel Tryz.prog β a a'
 size : a.size = 78
 slot : a.get 40 = ptr t1.next
 img : ∃ sz el, β t1.next = some ⟨it, 0, sz, el⟩
 same : ∀ t, t < 78 → Zs t = false → a.get t = a₁.get t
 nodup : seen.toList.Nodup
 below : ∀ i ∈ seen.toList, i < ks.length
theorem hmixT : Tryz.prog.follows .mixedOrders = true := by kernel_rfl
theorem Fr.get_put_ne {a : Fr} {d t : Nat} {v : Value} (hs : a.size = 78) (hd : d < 78) (h : t ≠ d) : (a.put (some d) v).get t = a.get t := by
 rw [Fr.get_put' (by omega) (by omega), if_neg h]
theorem Fr.get_put_eq {a : Fr} {d : Nat} {v : Value} (hs : a.size = 78) (hd : d < 78) : (a.put (some d) v).get d = v := by
 rw [Fr.get_put' (by omega) (by omega), if_pos rfl]
theorem Fr.put_size' {a : Fr} {d : Nat} {v : Value} : (a.put (some d) v).size = a.size := by
 simp only [Fr.put]
 split <;> rfl
end Go.Proofs.YtdejleegamcioaaGreat
namespace Go.M
variable {P : Program} {β : Ren} {s : St} {a : Fr} {a' : Act} {o : Oper} {call : FuncId → Array Value → St → CallOut}
theorem opM_extract {x : Operand} {i : Nat} {vs : Array Value} {v : Value} (hop : o.op = .extract x i) (hx : a.eval x = .tuple vs) (hi : yo vs.toList i = some v) : opM P call o a s = .normal (a.put o.dst v) s := by
 simp only [opM, hop, zr, hx, extractM, hi, okV]
theorem opM_assign {x : Operand} {v : Value} (hop : o.op = .assign x) (hx : a.eval x = v) : opM P call o a s = .normal (a.put o.dst v) s := by
 simp only [opM, hop, zr, hx, okV]
theorem opM_load1 {t : TypeId} {x : Operand} {b off : Nat} {c : List Value} {e : TypeId} {v : Value} (hop : o.op = .load t x) (hs : z1 P t = some none) (hx : a.eval x = .pointer (some ⟨b, off, none⟩)) (hg : s.get b = some (.cells c e)) (hc : yo c off = some v) :
  opM P call o a s = .normal (a.put o.dst v) s := by
 simp only [opM, hop, zr, loadM, loadV, hx, hg, hs, cutL, hc, okV]
theorem FRel.bool (hf : FRel P β a a') {t : Nat} {b : Bool} (h : a.get t = .bool b) : a'.eval (.tmp t) = .bool b := by
 have := hf.get t
 rw [h] at this
 show a'.tmps.getD t undef = _
 generalize a'.tmps.getD t undef = u at this
 cases this
 rfl
theorem FRel.ptr (hf : FRel P β a a') {t b : Nat} {m : Img} (h : a.get t = .pointer (some ⟨b, 0, none⟩)) (hb : β b = some m) : a'.eval (.tmp t) = .pointer (some ⟨m.blk, 0 + m.sh, none⟩) := by
 have := hf.get t
 rw [h] at this
 show a'.tmps.getD t undef = _
 generalize a'.tmps.getD t undef = u at this
 cases this with
 | ptr hb' => rw [hb] at hb'; cases hb'; rfl
theorem FRel.map (hf : FRel P β a a') {t b : Nat} (h : a.get t = .map (some b)) : ∃ m, β b = some m ∧ a'.eval (.tmp t) = .map (some m.blk) := by
 have := hf.get t
 rw [h] at this
 show ∃ m, β b = some m ∧ a'.tmps.getD t undef = _
 generalize a'.tmps.getD t undef = u at this
 cases this with
 | mref hb' => exact ⟨_, hb', rfl⟩
end Go.M
namespace Go.Proofs.YtdejleegamcioaaGreat
open Go Go.M
open Go.ChangeMaps (setBlock)
structure Frm (t1 : St) (a₁ a : Fr) : Prop where
 size : a.size = 78
 slot : a.get 40 = ptr t1.next
 same : ∀ t, t < 78 → Zs t = false → a.get t = a₁.get t
theorem Frm.put {t1 : St} {a₁ a : Fr} (h : Frm t1 a₁ a) {d : Nat} (hd : d < 78) (hz : Zs d = true) (h40 : d ≠ 40) (v : Value) : Frm t1 a₁ (a.put (some d) v) :=
 ⟨by rw [Fr.put_size']; exact h.size, by rw [Fr.get_put_ne h.size hd (Ne.symm h40)]; exact h.slot, fun t ht hz2 => by
  rw [Fr.get_put_ne h.size hd (fun e => by rw [e, hz] at hz2; cases hz2)]; exact h.same t ht hz2⟩
theorem Frm.at {t1 : St} {a₁ a : Fr} (h : Frm t1 a₁ a) {d : Nat} (hd : d < 78) (v : Value) : (a.put (some d) v).eval (.tmp d) = v := Fr.get_put_eq h.size hd
theorem outK_push (ks : List Int) (seen : Array Nat) (j : Nat) : outK ks (seen.push j) = outK ks seen ++ [ks.getD j 0] := by simp [outK]
theorem outK_len (ks : List Int) (seen : Array Nat) : (outK ks seen).length = seen.size := by simp [outK]
noncomputable def roundC : Code := .seq (.region 12 r12 false) (.seq (.cond (.tmp 42) .skip (.exit 0)) (.block 1 (.seq (.region 13 r13 false) (.region 14 r14 false))))
structure RealMap (β : Go.M.Ren) (es : Array MapEntry) (ks : List Int) (es' : Array MapEntry) : Prop where
 size : es'.size = ks.length
 ent : ∀ x ∈ es'.toList, ∃ j e, es[j]? = some e ∧ ERel Tryz.prog β e x ∧ j < ks.length ∧ x.born = j ∧ e.key = .int .i64 (ks.getD j 0)
 at_ : ∀ j, j < ks.length → ∃ x ∈ es'.toList, x.born = j
 nodup : (es'.toList.map (·.born)).Nodup
theorem realMap {β : Go.M.Ren} {es es' : Array MapEntry} {ks : List Int} (hk : keysL es.toList 0 = some ks) (hlen : es'.size = es.size) (he : ∀ (i : Nat) (e : MapEntry), es[i]? = some e → ∃ e', es'[i]? = some e' ∧ ERel Tryz.prog β e e') : RealMap β es ks es' := by
 obtain ⟨h1, h2⟩ := keysL_spec hk
 have h1 : ks.length = es.size := by simpa using h1
 have key : ∀ j x, es'[j]? = some x → ∃ e, es[j]? = some e ∧ ERel Tryz.prog β e x ∧ j < ks.length ∧ x.born = j ∧ e.key = .int .i64 (ks.getD j 0) := fun j x hx => by
  have hj : j < es'.size := by
   rcases Nat.lt_or_ge j es'.size with h | h
   ·exact h
   ·rw [Array.getElem?_eq_none h] at hx; cases hx
  obtain ⟨e, hej⟩ : ∃ e, es[j]? = some e := ⟨es[j], Array.getElem?_eq_getElem (by omega)⟩
  obtain ⟨x', hx', hr⟩ := he j e hej
  rw [hx] at hx'
  cases hx'
  obtain ⟨g1, g2⟩ := h2 j e (by simpa using hej)
  refine ⟨e, hej, hr, by omega, ?_, g2⟩
  rw [hr.2.2, g1]
  omega
 refine ⟨by omega, fun x hx => ?_, fun j hj => ?_, ?_⟩
 ·obtain ⟨j, hj, hx'⟩ := List.getElem_of_mem hx
  obtain ⟨e, h3⟩ := key j x (by rw [Array.getElem?_eq_getElem (by simpa using hj)]; simpa using hx')
  exact ⟨j, e, h3⟩
 ·have hj2 : j < es'.size := by omega
  obtain ⟨e, _, _, _, g, _⟩ := key j es'[j] (Array.getElem?_eq_getElem hj2)
  exact ⟨es'[j], by simp, g⟩
 ·have : es'.toList.map (·.born) = List.range es'.size := by
   apply List.ext_getElem
   ·simp
   ·intro i h3 h4
    simp at h3
    obtain ⟨e, _, _, _, g, _⟩ := key i es'[i] (Array.getElem?_eq_getElem h3)
    simpa using g
  rw [this]
  exact List.nodup_range
end Go.Proofs.YtdejleegamcioaaGreat
namespace Go.Proofs.YtdejleegamcioaaGreat
open Go Go.M
open Go.ChangeMaps (setBlock)
theorem n14 : codeN 78 (.region 14 r14 false) = true := by kernel_rfl
theorem b14 : xM (.region 14 r14 false) = true := by kernel_rfl
set_option maxHeartbeats 1000000 in
theorem rounds_ok {β₁ : Go.M.Ren} {t1 : St} {w₁ : World} {a₁ : Fr} {b16 r it : Nat} {v2 : Value} {es : Array MapEntry} {ks : List Int} {mr : Img} {Q : Exit → Act → World → Prop}
  (hfine : Fine t1) (hb16 : b16 < t1.next) (hmay : t1.may b16 = true) (h16 : a₁.get 16 = ptr b16) (hrl : r < t1.next) (hr : t1.get r = some (.map es ks.length)) (hrb : r ≠ b16) (hkey : keysL es.toList 0 = some ks) (hmr : β₁ r = some mr)
  (hn : ks.length < 1000000) (hfree : ∀ s' : St, s'.next ≤ t1.next + 1 + 2 * ks.length → Free β₁ t1 s') (hroom : t1.next + 2 * ks.length < 281474976710655)
  (hQ : ∀ seen β s a a' w, Inv β₁ t1 w₁ a₁ b16 v2 ks it mr.blk seen β s a a' w → (∀ i, i < ks.length → i ∈ seen.toList) → Q (.exit 0) a' w) :
  ∀ m seen β s a a' w, Inv β₁ t1 w₁ a₁ b16 v2 ks it mr.blk seen β s a a' w → ks.length < seen.size + m → Code.rounds Tryz.prog roundC Q m a' w := by
 intro m
 induction m with
 | zero =>
  intro seen β s a a' w I hm
  have := seen_len I.nodup I.below
  simp at this
  omega
 | succ m ih =>
  intro seen β s a a' w I hm
  have hF : Frm t1 a₁ a := ⟨I.size, I.slot, I.same⟩
  have hsl := seen_len I.nodup I.below
  have hsl : seen.size ≤ ks.length := by simpa using hsl
  have hnx := I.mid.next
  rw [outK_len] at hnx
  have hrel := I.acc.ext.rel
  have hgr : s.get r = some (.map es ks.length) := by rw [I.mid.old r hrl hrb]; exact hr
  obtain ⟨o', ho', hor⟩ := hrel.obj r mr _ (I.acc.ext.le r mr hmr) (by omega) hgr
  cases hor with
  | @map _ es' _ hlen he =>
  have R := realMap hkey hlen he
  have hold : ∀ x ∈ es'.toList, x.born < ks.length := fun x hx => by
   obtain ⟨j, e, _, _, h3, h4, _⟩ := R.ent x hx
   omega
  obtain ⟨isz, iel, himg⟩ := I.img
  have hi : a'.eval (.tmp 40) = .pointer (some ⟨it, 0, none⟩) := I.fr.ptr I.slot himg
  have hfr0 : Free β₁ t1 s := hfree s (by omega)
  rw [rounds_succ]
  refine wp_seq (wp_region_list ?_)
  rcases run_next_at (P := Tryz.prog) w 0 it mr.blk ks.length ks.length seen es' ks.length I.acc.cell ho' hold (Nat.le_refl _) with ⟨h0, hrun⟩ | ⟨e, hel, w1, hw1, hrun⟩
  ·refine wl_val rfl (exec_next rfl hi hrun) ?_
   have hf1 : FRel Tryz.prog β (a.put (some 41) (.tuple #[.bool false])) (a'.put (some 41) (.tuple #[.bool false])) := I.fr.put _ (.tuple (.cons (.bool _) .nil))
   refine wl_pure hmixT rfl rfl I.acc hf1 (opM_extract (v := .bool false) rfl (hF.at (by decide) _) rfl) hfr0 fun β' w' a1' hle A hf2 => ?_
   have hF2 := (hF.put (d := 41) (by decide) rfl (by decide) (.tuple #[.bool false])).put (d := 42) (by decide) rfl (by decide) (.bool false)
   have hf2 : FRel Tryz.prog β' ((a.put (some 41) (.tuple #[.bool false])).put (some 42) (.bool false)) a1' := hf2
   refine wpList_nil (wp_seq (wp_cond_false (hf2.bool (Frm.at (hF.put (d := 41) (by decide) rfl (by decide) _) (by decide) _)) (wp_exit (hQ seen β' s _ a1' w' ⟨A, I.mid, hf2, hF2.size, hF2.slot, ⟨isz, iel, hle _ _ himg⟩, hF2.same, I.nodup, I.below⟩ fun i hi => ?_))))
   obtain ⟨x, hx, hxb⟩ := R.at_ i hi
   by_cases hc : seen.contains x.born = true
   ·rw [hxb] at hc
    simpa using hc
   ·exfalso
    have hx2 : x ∈ (leftOf es' seen).toList := by
     unfold leftOf
     rw [Array.mem_toList_iff, Array.mem_filter]
     exact ⟨by simpa using hx, by simpa using hc⟩
    have := List.length_pos_of_mem hx2
    simp at this
    omega
  ·obtain ⟨hes, hns⟩ := mem_left hel
   obtain ⟨j, em, hem, hER, hj, hbj, hkj⟩ := R.ent e hes
   refine wl_val rfl (exec_next rfl hi hrun) ?_
   have hv : VRel Tryz.prog β (.tuple #[.bool true, em.key, em.val]) (.tuple #[.bool true, e.key, e.val]) := .tuple (.cons (.bool _) (.cons hER.1 (.cons hER.2.1 .nil)))
   have hf1 : FRel Tryz.prog β (a.put (some 41) (.tuple #[.bool true, em.key, em.val])) (a'.put (some 41) (.tuple #[.bool true, e.key, e.val])) := I.fr.put _ hv
   have hlt := I.acc.lt
   have A1 : Acc Tryz.prog β₁ t1 w₁ it (.mapIter (some mr.blk) ks.length (seen.push e.born) ks.length) β s (setBlock w1 it (.mapIter (some mr.blk) ks.length (seen.push e.born) ks.length)) := by
    rcases hw1 with rfl | rfl
    ·exact I.acc.turn (by simp [setBlock]) (fun q hq => by simp only [setBlock]; rw [Array.getElem?_setIfInBounds_ne (Ne.symm hq)]) (by simp [setBlock, hlt]) rfl rfl rfl
    ·exact I.acc.turn (by simp only [setBlock, Array.size_setIfInBounds]; rfl) (fun q hq => by simp only [setBlock]; rw [Array.getElem?_setIfInBounds_ne (Ne.symm hq)]; rfl) (by
      show (w.heap.setIfInBounds it _)[it]? = _
      simp [hlt]) rfl rfl rfl
   refine wl_pure hmixT rfl rfl A1 hf1 (opM_extract (v := .bool true) rfl (hF.at (by decide) _) rfl) hfr0 fun β2 w2 a2' hle2 A2 hf2 => ?_
   have hF2 := (hF.put (d := 41) (by decide) rfl (by decide) (.tuple #[.bool true, em.key, em.val])).put (d := 42) (by decide) rfl (by decide) (.bool true)
   have hf2 : FRel Tryz.prog β2 ((a.put (some 41) (.tuple #[.bool true, em.key, em.val])).put (some 42) (.bool true)) a2' := hf2
   generalize hA2 : (a.put (some 41) (.tuple #[.bool true, em.key, em.val])).put (some 42) (.bool true) = A2f at hf2 hF2
   have h42 : A2f.get 42 = .bool true := by rw [← hA2]; exact Frm.at (hF.put (d := 41) (by decide) rfl (by decide) _) (by decide) _
   refine wpList_nil (wp_seq (wp_cond_true (hf2.bool h42) (wp_skip (wp_block (wp_seq (wp_region_list ?_))))))
   -- the entry
   obtain ⟨o2, ho2, hor2⟩ := A2.ext.rel.obj r mr _ (A2.ext.le r mr hmr) (by omega) hgr
   cases hor2 with
   | @map _ es2 _ hlen2 he2 =>
   have R2 := realMap hkey hlen2 he2
   obtain ⟨x, hx, hxb⟩ := R2.at_ j hj
   obtain ⟨j2, em2, hem2, hER2, hj2, hbj2, hkj2⟩ := R2.ent x hx
   have hjj : j2 = j := by omega
   subst hjj
   have hi2 : a2'.eval (.tmp 40) = .pointer (some ⟨it, 0, none⟩) := hf2.ptr hF2.slot (hle2 _ _ himg)
   have hcell2 := A2.cell
   rw [hbj, ← hxb] at hcell2
   have hent := run_entry_at (P := Tryz.prog) w2 it mr.blk ks.length seen es2 ks.length x hcell2 ho2 hx R2.nodup
   refine wl_val rfl (exec_entry rfl hi2 hent) ?_
   have hv2 : VRel Tryz.prog β2 (.tuple #[em2.key, em2.val]) (.tuple #[x.key, x.val]) := .tuple (.cons hER2.1 (.cons hER2.2.1 .nil))
   have hf3 : FRel Tryz.prog β2 (A2f.put (some 43) (.tuple #[em2.key, em2.val])) (a2'.put (some 43) (.tuple #[x.key, x.val])) := hf2.put _ hv2
   have hF3 := hF2.put (d := 43) (by decide) rfl (by decide) (.tuple #[em2.key, em2.val])
   refine wl_pure hmixT rfl rfl A2 hf3 (opM_extract (v := em2.key) rfl (hF2.at (by decide) _) rfl) hfr0 fun β4 w4 a4' hle4 A4 hf4 => ?_
   have hf4 : FRel Tryz.prog β4 ((A2f.put (some 43) (.tuple #[em2.key, em2.val])).put (some 44) em2.key) a4' := hf4
   have hF4 := hF3.put (d := 44) (by decide) rfl (by decide) em2.key
   refine wl_pure hmixT rfl rfl A4 hf4 (opM_assign (v := em2.key) rfl (hF3.at (by decide) _)) hfr0 fun β5 w5 a5' hle5 A5 hf5 => ?_
   have hF5 := hF4.put (d := 17) (by decide) rfl (by decide) em2.key
   have hf5 : FRel Tryz.prog β5 (((A2f.put (some 43) (.tuple #[em2.key, em2.val])).put (some 44) em2.key).put (some 17) em2.key) a5' := hf5
   have h17 : (((A2f.put (some 43) (.tuple #[em2.key, em2.val])).put (some 44) em2.key).put (some 17) em2.key).get 17 = .int .i64 (ks.getD j2 0) := by rw [← hkj2]; exact hF4.at (by decide) _
   generalize hA5 : ((A2f.put (some 43) (.tuple #[em2.key, em2.val])).put (some 44) em2.key).put (some 17) em2.key = A5f at hf5 hF5 h17
   have g16 : A5f.get 16 = ptr b16 := by rw [hF5.same 16 (by decide) rfl]; exact h16
   refine wpList_nil ?_
   -- the append, on this machine
   have hnot : j2 ∉ seen.toList := by
    intro hh
    rw [hbj] at hns
    simp at hns
    exact hns (by simpa using hh)
   have hlt2 : seen.size < ks.length := by
    have := seen_len (n := ks.length) (l := j2 :: seen.toList) (List.nodup_cons.mpr ⟨hnot, I.nodup⟩) (fun i hi => by
     rcases List.mem_cons.mp hi with e | e
     ·omega
     ·exact I.below i e)
    simp at this
    omega
   have hlay : lay A5f.get [(16, ptr b16), (17, .int .i64 (ks.getD j2 0))] = A5f.get := lay_self ⟨g16, h17, trivial⟩
   obtain ⟨out, ⟨F', s', rfl, hmid, heq⟩, N, hN⟩ := run14 hfine hb16 hmay I.mid (by rw [outK_len]; omega) (by rw [outK_len]; omega) A5f.get (ks.getD j2 0)
   rw [hlay] at hN heq
   have hag : Agrees 78 A5f.get A5f := ⟨hF5.size, by decide, fun _ _ => rfl⟩
   have hsim := xC (P := Tryz.prog) (I := ym) N (.region 14 r14 false) A5f.get A5f s n14 hag
   rw [hN N (Nat.le_refl _)] at hsim
   cases hcm : zL Tryz.prog ym N (.region 14 r14 false) A5f s with
   | normal a6 s6 =>
    rw [hcm] at hsim
    obtain ⟨rfl, hag6⟩ := hsim
    have hnx6 := hmid.next
    rw [List.length_append, outK_len] at hnx6
    simp only [List.length_singleton] at hnx6
    have hfr6 : Free β₁ t1 s6 := hfree s6 (by omega)
    have hw := code_sound hmixT (xr (P := Tryz.prog)) N (.region 14 r14 false) A5f a5' s β5 w5 b14 A5.ext.rel hf5
    have hcm2 : zL Tryz.prog (fun _ => none) N (.region 14 r14 false) A5f s = .normal a6 s6 := hcm
    rw [hcm2] at hw
    refine wp_mono (hw (by simp) (A5.ext.freeOf hfr6)) fun ex a7 w7 ho => ?_
    obtain ⟨rfl, β7, hx7, hf7⟩ := ho
    have A7 := A5.step hx7 hfr6
    have hgt : ∀ t, t < 78 → Z14 t = false → a6.get t = A5f.get t := fun t ht hz => by rw [hag6.get t ht, ← heq t hz]
    have hZ : ∀ t, Zs t = false → Z14 t = false := fun t hz => by
     unfold Zs at hz
     unfold Z14
     simp only [Bool.or_eq_false_iff, Bool.and_eq_false_iff] at hz ⊢
     rcases hz.2 with h | h
     ·refine .inl ?_
      rw [Bool.eq_false_iff] at h ⊢
      intro h2
      exact h (Nat.ble_eq_true_of_le (by have := Nat.le_of_ble_eq_true h2; omega))
     ·refine .inr ?_
      rw [Bool.eq_false_iff] at h ⊢
      intro h2
      exact h (Nat.ble_eq_true_of_le (by have := Nat.le_of_ble_eq_true h2; omega))
    refine ih (seen.push j2) β7 s6 a6 a7 w7 ⟨?_, ?_, hf7, hag6.size, ?_, ⟨isz, iel, hx7.le _ _ (hle5 _ _ (hle4 _ _ (hle2 _ _ himg)))⟩, ?_, ?_, ?_⟩ (by simp; omega)
    ·rw [hbj] at A7; exact A7
    ·rw [outK_push]; exact hmid
    ·rw [hgt 40 (by decide) rfl]; exact hF5.slot
    ·intro t ht hz
     rw [hgt t ht (hZ t hz)]
     exact hF5.same t ht hz
    ·simp only [Array.toList_push]
     rw [List.nodup_append]
     refine ⟨I.nodup, by simp, fun x hx y hy => ?_⟩
     simp only [List.mem_singleton] at hy
     subst hy
     exact fun e => hnot (e ▸ hx)
    ·intro i hi
     simp only [Array.toList_push, List.mem_append, List.mem_singleton] at hi
     rcases hi with h | h
     ·exact I.below i h
     ·omega
   | _ => rw [hcm] at hsim; exact hsim.elim
end Go.Proofs.YtdejleegamcioaaGreat
namespace Go.Proofs.YtdejleegamcioaaGreat
open Go Go.M
theorem fc43 : yk Tryz.prog 43 = true := by kernel_rfl
theorem n15 : codeN 78 (.region 15 r15 false) = true := by kernel_rfl
theorem b15 : xM (.region 15 r15 false) = true := by kernel_rfl
theorem run15 {t1 s : St} {b16 : Nat} {v2 : Value} {ks : List Int} (hf : Fine t1) (hb : b16 < t1.next) (M : Mid t1 b16 v2 ks s) (h0 : 0 < ks.length) (hlen : ks.length < 1000000) (G : FF) :
  y3 Tryz.prog sortT (.region 15 r15 false) (lay G [(16, ptr b16)]) s fun o => ∃ F', o = .normal F' (s.put (t1.next + 2 * ks.length) (some (.cells (z7 (yp ks)) 23))) ∧ EqOff Zs (lay G [(16, ptr b16)]) F' := by
 refine zv (za rfl (zf of36_0 rfl (za rfl (zj sh31 rfl M.sl rfl (za rfl (zo rfl fc43 rfl ⟨.tuple #[], s.put (t1.next + 2 * ks.length) (some (.cells (z7 (yp ks)) 23)), ⟨0, fun m _ => ?_⟩, ?_⟩))))))
 ·obtain ⟨k, hk⟩ : ∃ k, ks.length = k + 1 := ⟨ks.length - 1, by omega⟩
  have e1 : slK t1.next ks.length = .slice (some ⟨t1.next + 2 * ks.length, 0, none⟩) ks.length (2 * ks.length + 1) := by rw [hk]; rfl
  have hl := M.last h0
  have hm : s.may (t1.next + 2 * ks.length) = true := by rw [St.may_eq M.bar M.prot]; exact may_young hf (by omega)
  have hc : (s.may (t1.next + 2 * ks.length) && Nat.blt 0 ks.length && Nat.blt ks.length 1000000000 && Nat.beq ks.length (yY (z7 ks) 0)) = true := by
   rw [hm, Nat.blt_eq.mpr h0, Nat.blt_eq.mpr (show ks.length < 1000000000 by omega), y9]
   simp [z7]
  show sortI ⟨[slK t1.next ks.length]⟩ s = _
  rw [e1]
  simp only [sortI, hl, intsOf_ints, hc]
 ·exact zb ⟨_, rfl, ((EqOff.over (fun _ _ => rfl) rfl _).over rfl _).over rfl _⟩
set_option maxHeartbeats 1000000 in
theorem seg_sound {a₁ : Fr} {a' : Act} {s1 s2 : St} {β₁ : Go.M.Ren} {w₁ : World} {Q : Exit → Act → World → Prop} (hrel : Rel Tryz.prog β₁ s1 w₁) (hfr : FRel Tryz.prog β₁ a₁ a') (hsz : a₁.size = 78) (hseg : segS (a₁.get 13) (a₁.get 16) s1 = some s2) (hfree : Free β₁ s1 s2)
  (hQ : ∀ β a a'' w, Ext Tryz.prog β₁ s1 w₁ β s2 w → FRel Tryz.prog β a a'' → a.size = 78 → (∀ t, t < 78 → Zs t = false → a.get t = a₁.get t) → leastTail.wp Tryz.prog Q a'' w) :
  (dropS 8 y4).wp Tryz.prog Q a' w₁ := by
 obtain ⟨bK, b16, r, eK, v2, es, clock, ks, e13, e16, gK, g16, gr, hkey, hclock, hmay, hroom, hn0, hn1, hs2⟩ := segS_spec hseg
 have hkl : ks.length = es.size := by have := (keysL_spec hkey).1; simpa using this
 rw [hclock] at gr
 rw [← hkl] at hs2 hroom hn0 hn1 gr
 have hs2n : s2.next = s1.next + 2 * ks.length + 1 := by rw [hs2]; rfl
 have hlt16 := hrel.lt g16
 have hltr := hrel.lt gr
 have hne : r ≠ b16 := fun e => by rw [e, g16] at gr; cases gr
 -- the same state, with a bar that is no higher than it need be
 obtain ⟨t1, ht1⟩ : ∃ t1 : St, t1 = { s1 with bar := min s1.bar s1.next, prot := s1.prot.filter (fun p => decide (p < s1.next)) } := ⟨_, rfl⟩
 have tn : t1.next = s1.next := by rw [ht1]
 have tg : ∀ b, t1.get b = s1.get b := fun b => by rw [ht1]; rfl
 have tfine : Fine t1 := by
  refine ⟨by rw [ht1]; exact Nat.min_le_right _ _, fun p hp => ?_⟩
  rw [ht1] at hp ⊢
  simp only [List.mem_filter, decide_eq_true_eq] at hp
  exact hp.2
 have tmay : ∀ b, b < s1.next → t1.may b = s1.may b := fun b hb => by
  rw [ht1]
  unfold St.may
  simp only
  have e1 : Nat.ble (min s1.bar s1.next) b = Nat.ble s1.bar b := by
   rw [Bool.eq_iff_iff, Nat.ble_eq, Nat.ble_eq]
   omega
  have e2 : (s1.prot.filter (fun p => decide (p < s1.next))).any (Nat.beq b) = s1.prot.any (Nat.beq b) := by
   rw [Bool.eq_iff_iff, List.any_eq_true, List.any_eq_true]
   constructor
   ·rintro ⟨p, hp, h⟩
    exact ⟨p, (List.mem_filter.mp hp).1, h⟩
   ·rintro ⟨p, hp, h⟩
    refine ⟨p, List.mem_filter.mpr ⟨hp, ?_⟩, h⟩
    have := Nat.eq_of_beq_eq_true h
    simp only [decide_eq_true_eq]
    omega
  rw [e1, e2]
 have trel : Rel Tryz.prog β₁ t1 w₁ := ⟨fun b m h1 h2 => hrel.img b m h1 (by omega), fun b m o h1 h2 h3 => hrel.obj b m o h1 (by omega) (by rw [← tg]; exact h3),
  fun b1 b2 m1 m2 o1 o2 h1 h2 h3 h4 h5 h6 h7 => hrel.inj b1 b2 m1 m2 o1 o2 h1 h2 (by omega) (by omega) (by rw [← tg]; exact h5) (by rw [← tg]; exact h6) h7,
  by rw [tn]; exact hrel.room, fun b hb => by rw [tg]; exact hrel.top b (by omega)⟩
 have tfree : ∀ s' : St, s'.next ≤ t1.next + 1 + 2 * ks.length → Free β₁ t1 s' := fun s' hs' b h1 h2 => hfree b (by omega) (by omega)
 rw [seg_shape]
 refine wp_seq (wp_seq (wp_region_list ?_))
 have hx13 : a₁.eval (.tmp 13) = .pointer (some ⟨bK, 0, none⟩) := e13
 refine wl_first hmixT rfl rfl trel hfr (opM_load1 (v := .map (some r)) rfl sh96 hx13 ((tg bK).trans gK) rfl) (fun b h1 h2 => by omega) fun β2 w2 a2' hx2 hf2 => ?_
 have hf2 : FRel Tryz.prog β2 (a₁.put (some 39) (.map (some r))) a2' := hf2
 have hold : ∀ b m, β2 b = some m → β₁ b = some m := fun b m h => by
  cases h1 : β₁ b with
  | some m' => have := hx2.le b m' h1; rw [h] at this; cases this; rfl
  | none => have := hx2.dom b m h h1; omega
 obtain ⟨mr, hmr2, hev⟩ := hf2.map (t := 39) (b := r) (Fr.get_put_eq hsz (by decide))
 have hmr := hold r mr hmr2
 obtain ⟨o', ho', hor⟩ := hx2.rel.obj r mr _ hmr2 (by omega) ((tg r).trans gr)
 cases hor with
 | @map _ es' _ hlen he =>
 refine wl_val rfl (exec_range rfl hev un96 ho') (wpList_nil ?_)
 have hnone : β2 t1.next = none := by
  cases h : β2 t1.next with
  | none => rfl
  | some m => have h1 := hold _ _ h; rw [hfree t1.next (by omega) (by omega)] at h1; cases h1
 have hx3 := Ext.unseen (o' := .mapIter (some mr.blk) ks.length #[] ks.length) (m := ⟨w2.heap.size, 0, 0, 0⟩) hx2.rel (by omega) hnone rfl
 have hx := hx2.trans hx3 (tfree _ (by simp only; omega))
 have htop : t1.get t1.next = none := trel.top _ (Nat.le_refl _)
 have hA : Acc Tryz.prog β₁ t1 w₁ w2.heap.size (.mapIter (some mr.blk) ks.length #[] ks.length) (β2.add t1.next ⟨w2.heap.size, 0, 0, 0⟩) { t1 with next := t1.next + 1 } (w2.alloc (.mapIter (some mr.blk) ks.length #[] ks.length)) := by
  refine ⟨hx, heap_alloc_new _ _, hx2.size, fun b m o hb hlt hg => ?_⟩
  have hbn : b ≠ t1.next := fun e => by
   rw [e] at hg
   have hg : t1.get t1.next = some o := hg
   rw [htop] at hg
   cases hg
  have hb2 : β2 b = some m := by simpa [Go.M.Ren.add, hbn] using hb
  have := hx2.rel.img b m hb2 (by simp only at hlt; omega)
  omega
 have hI : Inv β₁ t1 w₁ a₁ b16 v2 ks w2.heap.size mr.blk #[] (β2.add t1.next ⟨w2.heap.size, 0, 0, 0⟩) { t1 with next := t1.next + 1 } ((a₁.put (some 39) (.map (some r))).put (some 40) (ptr t1.next)) (a2'.put (some 40) (.pointer (some ⟨w2.heap.size, 0, none⟩))) (w2.alloc (.mapIter (some mr.blk) ks.length #[] ks.length)) := by
  have hs39 : (a₁.put (some 39) (.map (some r))).size = 78 := by rw [Fr.put_size']; exact hsz
  refine ⟨hA, ⟨rfl, rfl, rfl, (tg b16).trans g16, fun h => absurd h (by simp [outK]), fun b _ _ => rfl⟩, ?_, by rw [Fr.put_size', hs39], Fr.get_put_eq hs39 (by decide), ⟨0, 0, Go.M.Ren.add_self⟩, fun t ht hz => ?_, by simp, by simp⟩
  ·exact (hf2.mono hx3.le).put (some 40) (.ptr (m := ⟨w2.heap.size, 0, 0, 0⟩) Go.M.Ren.add_self)
  ·have h39 : t ≠ 39 := fun e => by subst e; cases hz
   have h40 : t ≠ 40 := fun e => by subst e; cases hz
   rw [Fr.get_put_ne hs39 (by decide) h40, Fr.get_put_ne hsz (by decide) h39]
 refine wp_block (wp_loop_rounds (ks.length + 1) (rounds_ok tfine (by omega) (by rw [tmay b16 hlt16]; exact hmay) e16 (by omega) ((tg r).trans gr) hne hkey hmr hn1 tfree (by omega) ?_ (ks.length + 1) #[] _ _ _ _ _ hI (by simp)))
 intro seen β s a a3 w I hall
 show (Code.seq (.region 15 r15 false) leastTail).wp Tryz.prog Q a3 w
 have hp : (outK ks seen).Perm ks := by
  have := (seen_perm I.nodup I.below hall).map fun i => ks.getD i 0
  rw [map_range] at this
  exact this
 have hlenK : (outK ks seen).length = ks.length := hp.length_eq
 have hsort : yp (outK ks seen) = yp ks := isort_of_perm hp
 have g16a : a.get 16 = ptr b16 := by rw [I.same 16 (by decide) rfl]; exact e16
 have hlay : lay a.get [(16, ptr b16)] = a.get := lay_self ⟨g16a, trivial⟩
 obtain ⟨out, ⟨F', rfl, heq⟩, N, hN⟩ := run15 tfine (by omega) I.mid (by omega) (by omega) a.get
 rw [hlay] at hN heq
 have hag : Agrees 78 a.get a := ⟨I.size, by decide, fun _ _ => rfl⟩
 have hsim := xC (P := Tryz.prog) (I := sortT) N (.region 15 r15 false) a.get a s n15 hag
 rw [hN N (Nat.le_refl _)] at hsim
 cases hcm : zL Tryz.prog sortT N (.region 15 r15 false) a s with
 | normal a6 s6 =>
  rw [hcm] at hsim
  obtain ⟨rfl, hag6⟩ := hsim
  have hnx := I.mid.next
  have hsn : s.next = s1.next + 1 + 2 * ks.length := by rw [hnx, hlenK, tn]
  have hfr6 : Free β₁ t1 (s.put (t1.next + 2 * (outK ks seen).length) (some (.cells (z7 (yp (outK ks seen))) 23))) := tfree _ (by rw [St.put_next]; omega)
  have hw := code_sound hmixT sortT_ok N (.region 15 r15 false) a a3 s β w b15 I.acc.ext.rel I.fr
  rw [hcm] at hw
  refine wp_seq (wp_mono (hw (by simp) (I.acc.ext.freeOf hfr6)) fun ex a7 w7 ho => ?_)
  obtain ⟨rfl, β7, hx7, hf7⟩ := ho
  have hX := I.acc.ext.trans hx7 hfr6
  refine hQ β7 a6 a7 w7 ?_ hf7 hag6.size fun t ht hz => ?_
  ·have gnew : ∀ b, s2.get b = if b = b16 then some (.cells [.slice (some ⟨s1.next + 2 * ks.length, 0, none⟩) ks.length (2 * ks.length + 1), v2] 36) else if b = s1.next + 2 * ks.length then some (.cells (z7 (yp ks)) 23) else s1.get b := fun b => by
    rw [hs2, St.get_put (by omega), St.get_new (by simp only; omega)]
    rfl
   have gput : ∀ b, (s.put (t1.next + 2 * (outK ks seen).length) (some (.cells (z7 (yp (outK ks seen))) 23))).get b = if b = s1.next + 2 * ks.length then some (.cells (z7 (yp ks)) 23) else s.get b := fun b => by
    rw [St.get_put (by omega), hlenK, tn, hsort]
   have hforget : ∀ b, s2.get b = (s.put (t1.next + 2 * (outK ks seen).length) (some (.cells (z7 (yp (outK ks seen))) 23))).get b ∨ (s2.get b = none ∧ t1.next ≤ b) := fun b => by
    rw [gnew, gput]
    by_cases h1 : b = b16
    ·left
     rw [if_pos h1, if_neg (by omega), h1, I.mid.sl, hlenK, tn]
     obtain ⟨k, hk⟩ : ∃ k, ks.length = k + 1 := ⟨ks.length - 1, by omega⟩
     rw [hk]
     rfl
    ·rw [if_neg h1]
     by_cases h2 : b = s1.next + 2 * ks.length
     ·left; rw [if_pos h2, if_pos h2]
     ·rw [if_neg h2, if_neg h2]
      by_cases h3 : b < s1.next
      ·left; rw [I.mid.old b (by omega) h1, tg]
      ·right; exact ⟨hrel.top b (by omega), by omega⟩
   have hY := hX.forget (s₂ := { s2 with bar := s.bar, prot := s.prot }) (by rw [St.put_next]; simp only; omega) rfl rfl hforget
   exact hY.rebar (t := s1) (t' := s2) tn.symm (fun b => (tg b).symm) (fun b hb => (tmay b (by omega)).symm) rfl (fun b => rfl) (by rw [hs2]; rfl) (by rw [hs2]; rfl)
  ·rw [hag6.get t ht, ← heq t hz]
   exact I.same t ht hz
 | _ => rw [hcm] at hsim; exact hsim.elim
end Go.Proofs.YtdejleegamcioaaGreat
