/- UndoOrders: THE STATEMENT, PROVED: for every input the law returns true, and its arguments read as they did. -/
import Derived.Test.YtdejleegamcioaaGreatP28
import Derived.Test.YtdejleegamcioaaGreatQ1
import Derived.Test.YtdejleegamcioaaGreatQ1b
namespace Go.Proofs.YtdejleegamcioaaGreat
open Go Go.M Go.ChangeShapes Go.WideShapes Go.ChangeAt Go.RowKit Go.Conc
theorem Tq.own : ownKnob Tryz.prog.godebug = none := by kernel_rfl
theorem Tq.laidOut : laidOutB Tryz.prog = true := by kernel_rfl
theorem Tq.cells3 : Tryz.prog.cellsOf 3 = 1 := by kernel_rfl
theorem wf_in {z : Int} (h : (Lit.int .i64 z).wf = true) : zQ z := by
 simp [Lit.wf, IntKind.min, IntKind.max, IntKind.signed, IntKind.bits] at h
 unfold zQ
 omega
def LawC (f : FuncId) : Prop := ∀ (s : St) (v : Value) (l : List Int), Fine s → SlI s v l → (∀ x ∈ l, zQ x) → s.next + 100000000000000 ≤ zh →
 ∃ s', yE Tryz.prog lawO f #[v] s (.bool true) s'
set_option maxRecDepth 100000 in
theorem law_run {f : FuncId} (hi : Tryz.prog.inits.idxOf? f = none) (hl : LawC f) {W : World} {v : Value} {l : List Int} (hg : ∃ β s u, Given β s W u v l) (hin : ∀ x ∈ l, zQ x) :
  ∃ M last o w' t', runNT Tryz.prog (M + 1) (solo (G (Frame.enter Tryz.prog f #[v] .normal) []) W) #[] = (.ended o w', t') ∧
   runN Tryz.prog M (solo (G (Frame.enter Tryz.prog f #[v] .normal) []) W) = .next last ∧ step Tryz.prog last = .ended o w' ∧
   Conc.Good Tryz.prog (fun x W' => x = .bool true ∧ Below W.heap.size W W') last o w' t' := by
 obtain ⟨β, s, u, g⟩ := hg
 obtain ⟨s', hr⟩ := hl s u l g.fine g.sl hin (by have := g.next; unfold zh; omega)
 exact good_of_calls hi (given_calls1 g hr)
set_option maxRecDepth 100000 in
theorem law_lifted {f : FuncId} {fn : Func} {sp : ChangeSpec} (os : Os) (started : os.Started) (H : Type) (enc : TypeId × Value → H) (hfn : Tryz.prog.funcs[f]? = some fn) (hi : Tryz.prog.inits.idxOf? f = none) (hpar : fn.params.toList = [22]) (hres : ∀ v, Value.resultList fn.resultTypes.size (.bool v) = [.bool v]) (hrt : fn.resultTypes.toList = [4])
  (hsp : ∀ d1, sp.fn H [d1] = { results := [.lit (.bool true)], args := [d1] }) (hvars : sp.vars = [])
  (hwit : ∃ (w : World) (tape : Tape) (i : Input), w.os = os ∧ (w.forCall tape i).Shaped Tryz.prog ∧ i.vars = [] ∧ Input.okWide Tryz.prog (w.forCall tape i) .any w.heap.size f i ∧
   sp.pre6 enc Tryz.prog fn [] false (w.forCall tape i).memory i.args ∧ ({} : Assume).holds Tryz.prog (lone (Frame.enter Tryz.prog f i.args .normal) [] (w.forCall tape i)))
  (hl : LawC f) : ReturnsInLeavingWide {} Tryz.checked os f .any (sp.pre6 enc Tryz.prog fn [] false) (sp.post enc Tryz.prog fn false true false false) := by
 refine returnsInLeavingWide_of_change_sized (C := Tryz.checked) Tq.own started hfn hwit ?_
 intro W base args ds gs before hval0 hW _ _ _
 have hval : ∀ (j : Nat) t v, fn.params[j]? = some t → args[j]? = some v → Value.okWide Tryz.prog W .any base t v := hval0
 have hW' := hW
 obtain ⟨p, q, hA0, hV, rfl, hfz, _⟩ := hW
 have hA : DataW.TrodAll enc Tryz.prog W 0 (fun _ => true) true fn.params.toList args.toList ds p := hA0
 rw [hpar] at hA
 rw [hvars] at hV
 obtain ⟨v0, vs0, d0, ds0, p0, q0, ha0, rfl, rfl, h0, hA⟩ := trodAll_cons hA
 obtain ⟨rfl, rfl, rfl⟩ := trodAll_nil hA
 obtain ⟨rfl, rfl⟩ := trodVars_none hV
 have hargs : args = #[v0] := by cases args; simp_all
 subst hargs
 have hp : fn.params = #[22] := by have := hpar; cases hh : fn.params; simp_all
 rw [hp] at hval
 obtain ⟨a0, len, cap, rfl⟩ := okWide_slice Tryz.underlying22 (hval 0 22 v0 rfl rfl)
 have hlt : ∀ x ∈ p0, x.block < W.heap.size := fun x hx => hW'.lt x (by simp [hx])
 have hpost : ∀ W', Below W.heap.size W W' → sp.post enc Tryz.prog fn false true false false W #[.slice a0 len cap] (.bool true) W' := by
  intro W' hB
  refine ⟨_, _, _, [], p0, [], hW', ?_, ?_, ?_, hB.frame _, fun h => by cases h⟩
  ·rw [hrt, hres, List.append_nil, hsp]
   exact trodAll_mk1 (shut_bool Tryz.underlying4 true)
  ·rw [hpar, List.append_nil, hsp]
   exact trodAll_mk1 (Below.trod Tq.laidOut (by kernel_rfl) (of_decide_eq_true (by kernel_rfl)) h0 hB hlt)
  ·rw [List.append_nil, hsp, hvars]
   rfl
 have close : ∀ l, (∃ β s u, Given β s W u (.slice a0 len cap) l) → (∀ x ∈ l, zQ x) → ∃ M last o w' t', runNT Tryz.checked.prog (M + 1) (solo (G (Frame.enter Tryz.checked.prog f #[.slice a0 len cap] .normal) []) W) #[] = (.ended o w', t') ∧
    runN Tryz.checked.prog M (solo (G (Frame.enter Tryz.checked.prog f #[.slice a0 len cap] .normal) []) W) = .next last ∧ step Tryz.checked.prog last = .ended o w' ∧
    Conc.Good Tryz.checked.prog (fun v W' => sp.post enc Tryz.checked.prog fn false true false false W #[.slice a0 len cap] v W') last o w' t' := by
  intro l hg hin
  obtain ⟨M, last, o, w', t', e1, e2, e3, e4⟩ := law_run hi hl hg hin
  refine ⟨M, last, o, w', t', e1, e2, e3, e4.mono fun v hF => ?_⟩
  obtain ⟨rfl, hB⟩ := hF
  exact hpost w' hB
 have hok := hval 0 22 _ rfl rfl
 obtain ⟨fuel, hf⟩ := h0
 rcases open_ints Tryz.underlying22 Tryz.underlying3 Tq.cells3 hf with ⟨hcs, hx⟩ | ⟨a, len', cap', zs, hcs, _, hle, hm, hz, hx, hcell, hwz⟩
 ·simp [Value.cells] at hcs
  obtain ⟨rfl, rfl, rfl⟩ := hcs
  exact close [] (given_nil W) (fun x hx => by simp at hx)
 ·simp [Value.cells] at hcs
  obtain ⟨rfl, rfl, rfl⟩ := hcs
  simp only [if_true] at hz
  simp only [Prod.mk.injEq] at hx
  simp only [Value.okWide, Tryz.underlying22, Cell.okWide, Cell.ok] at hok
  obtain ⟨_, _, hhas⟩ := hok
  obtain ⟨_, hspot, row, cells, hshape, _⟩ := hhas
  refine close (zs.take len) (given_slice hspot hz hle ⟨_, hshape⟩ hcell fun i hi => ?_) (fun x hx2 => wf_in (hwz x (List.mem_of_mem_take hx2)))
  refine hfz a.block (a.off + i) ?_
  rw [hx.2]
  simp only [List.mem_append, MemPlace.mem_row]
  exact .inl (.inl ⟨i, by omega, rfl⟩)
theorem orders_law : LawC 8 := fun s v l hf hl hin hroom => by
 obtain ⟨v', s', h1, h2, _⟩ := undoOrders_ok lawO_plain lawO_keys lawO_sorted lawO_least lawO_lives hf hl hin hroom
 subst h2
 exact ⟨s', h1⟩
theorem orders_named : Tryz.prog.funcNamed Rows.undoOrdersRow.func = some 8 := by kernel_rfl
set_option maxRecDepth 100000 in
theorem orders_closed : joinedFacts Tryz.prog 8 Tryz.f8 Rows.undoOrdersSpec Rows.undoOrdersRow = true := (y8 (y8 (y8 (y8 (y8 (y8 (y8 (y8 (y8 (y8 (y8 (y8 (y8 (y8 (y8 (y8 (y8 (y8 (y8 (y8 (y8 (y8 (y8 (y8 (y8 (y8 (y8 (y8 (y8 (y8 (y8 orders_k0 orders_k1) orders_k2) orders_k3) orders_k4) orders_k5) orders_k6) orders_k7) orders_k8) orders_k9) orders_k10) orders_k11) orders_k12) orders_k13) orders_k14) orders_k15) orders_k16) orders_k17) orders_k18) orders_k19) orders_k20) orders_k21) orders_k22) orders_k23) orders_k24) orders_k25) orders_k26) orders_k27) orders_k28) orders_k29) orders_k30) orders_k31)
theorem orders_inst : Tryz.f8.isInstance Tryz.prog Rows.undoOrdersRow.origin Rows.undoOrdersRow.targs := of_decide_eq_true (by kernel_rfl)
theorem orders_wrap : Tryz.f8.isWrapper Tryz.prog Rows.undoOrdersRow.wrapper Rows.undoOrdersRow.mainSum := by
 unfold Func.isWrapper
 first | (rw [if_pos (by decide +kernel)]; kernel_rfl) | (rw [if_neg (by decide +kernel)]; exact ⟨rfl, rfl⟩)
theorem orders_init : Tryz.prog.inits.idxOf? 8 = none := by kernel_rfl
theorem orders_params : Tryz.f8.params.toList = [22] := by kernel_rfl
theorem orders_types : Tryz.f8.resultTypes.toList = [4] := by kernel_rfl
theorem orders_v (os : Os) : (World.plainHolding Tryz.prog os ⟨#[], #[.slice none 0 0], []⟩).variablesB Tryz.prog = true := by kernel_rfl
theorem orders_r (os : Os) : ((World.plainHolding Tryz.prog os ⟨#[], #[.slice none 0 0], []⟩).heap.toList.drop Tryz.prog.globals.size).take ((begin Tryz.prog (fun _ _ => 0) default).world.heap.size - Tryz.prog.globals.size) =
   (begin Tryz.prog (fun _ _ => 0) default).world.heap.toList.drop Tryz.prog.globals.size := by kernel_rfl
theorem orders_o (os : Os) : Input.okWideB Tryz.prog (World.plainHolding Tryz.prog os ⟨#[], #[.slice none 0 0], []⟩) 8 ⟨#[], #[.slice none 0 0], []⟩ = true := by kernel_rfl
set_option maxRecDepth 100000 in
theorem undoOrders_holds : Rows.UndoOrdersSaid :=
 OpenClaim.holds_of_wide_leaving 8 Tryz.f8 rfl rfl rfl rfl rfl rfl rfl ⟨rfl, rfl, rfl, rfl, rfl⟩ rfl rfl rfl rfl rfl orders_named Tryz.func8 orders_closed
  orders_inst orders_wrap
  (fun os started H enc _ => law_lifted (sp := Rows.undoOrdersSpec) os started H enc Tryz.func8 orders_init orders_params (fun _ => rfl) orders_types (fun _ => rfl) rfl
   (ChangeSpec.witness6 (enc := enc) (C := Tryz.checked) false ⟨#[], #[.slice none 0 0], []⟩ 8 (orders_v os) (orders_r os) (orders_o os) (by kernel_rfl)) orders_law)
#print axioms undoOrders_holds
end Go.Proofs.YtdejleegamcioaaGreat
