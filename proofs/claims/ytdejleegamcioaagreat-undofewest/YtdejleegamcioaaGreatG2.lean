/- UndoFewest: THE STATEMENT, PROVED: for every input the law returns true, and its arguments read as they did. -/
import Derived.Test.YtdejleegamcioaaGreatF35
import Derived.Test.YtdejleegamcioaaGreatG1
import Derived.Test.YtdejleegamcioaaGreatG0
namespace Go.Proofs.YtdejleegamcioaaGreat
open Go Go.M Go.ChangeShapes Go.WideShapes Go.ChangeAt Go.RowKit Go.Conc
theorem Tq.own : ownKnob Tryz.prog.godebug = none := by kernel_rfl
theorem Tq.laidOut : laidOutB Tryz.prog = true := by kernel_rfl
theorem Tq.cells3 : Tryz.prog.cellsOf 3 = 1 := by kernel_rfl
theorem wf_in {z : Int} (h : (Lit.int .i64 z).wf = true) : zS z := by
 simp [Lit.wf, IntKind.min, IntKind.max, IntKind.signed, IntKind.bits] at h
 unfold zS
 omega
def LawC (f : FuncId) : Prop := ∀ (s : St) (v : Value) (l : List Int) (a b c : Int), Fine s → SlI s v l → (∀ x ∈ l, zS x) → zS a → zS b → zS c → s.next + 100000000000000 ≤ zo →
 ∃ s', yI Tryz.prog lawT f #[v, .int .i64 a, .int .i64 b, .int .i64 c] s (.bool true) s'
set_option maxRecDepth 100000 in
theorem law_run {f : FuncId} (hi : Tryz.prog.inits.idxOf? f = none) (hl : LawC f) {W : World} {v : Value} {l : List Int} {a b c : Int} (hg : ∃ β s u, Given β s W u v l) (hin : ∀ x ∈ l, zS x) (ha : zS a) (hb : zS b) (hc : zS c) :
  ∃ M last o w' t', runNT Tryz.prog (M + 1) (solo (G (Frame.enter Tryz.prog f #[v, .int .i64 a, .int .i64 b, .int .i64 c] .normal) []) W) #[] = (.ended o w', t') ∧
   runN Tryz.prog M (solo (G (Frame.enter Tryz.prog f #[v, .int .i64 a, .int .i64 b, .int .i64 c] .normal) []) W) = .next last ∧ step Tryz.prog last = .ended o w' ∧
   Conc.Good Tryz.prog (fun x W' => x = .bool true ∧ Below W.heap.size W W') last o w' t' := by
 obtain ⟨β, s, u, g⟩ := hg
 obtain ⟨s', hr⟩ := hl s u l a b c g.fine g.sl hin ha hb hc (by have := g.next; unfold zo; omega)
 exact good_of_calls hi (given_calls g hr)
set_option maxRecDepth 100000 in
theorem law_lifted {f : FuncId} {fn : Func} {sp : ChangeSpec} (os : Os) (started : os.Started) (H : Type) (enc : TypeId × Value → H) (hfn : Tryz.prog.funcs[f]? = some fn) (hi : Tryz.prog.inits.idxOf? f = none) (hpar : fn.params.toList = [22, 3, 3, 3]) (hres : ∀ v, Value.resultList fn.resultTypes.size (.bool v) = [.bool v]) (hrt : fn.resultTypes.toList = [4])
  (hsp : ∀ d1 d2 d3 d4, sp.fn H [d1, d2, d3, d4] = { results := [.lit (.bool true)], args := [d1, d2, d3, d4] }) (hvars : sp.vars = [])
  (hwit : ∃ (w : World) (tape : Tape) (i : Input), w.os = os ∧ (w.forCall tape i).Shaped Tryz.prog ∧ i.vars = [] ∧ Input.okWide Tryz.prog (w.forCall tape i) .any w.heap.size f i ∧
   sp.pre6 enc Tryz.prog fn [] false (w.forCall tape i).memory i.args ∧ ({} : Assume).holds Tryz.prog (lone (Frame.enter Tryz.prog f i.args .normal) [] (w.forCall tape i)))
  (hl : LawC f) : ReturnsInLeavingWide {} Tryz.checked os f .any (sp.pre6 enc Tryz.prog fn [] false) (sp.post enc Tryz.prog fn false true false false) := by
 refine returnsInLeavingWide_of_change_sized (C := Tryz.checked) Tq.own started hfn hwit ?_
 intro W base args ds gs before hval0 hW _ _ _
 have hval : ∀ (j : Nat) t v, fn.params[j]? = some t → args[j]? = some v → Value.okWide Tryz.prog W .any base t v := hval0
 have hW' := hW
 obtain ⟨p, q, hA0, hV, rfl, hfz, _⟩ := hW
 have hA : DataW.TrodAll enc Tryz.prog W 0 (fun _ => true) true fn.params.toList args.toList ds p := hA0
 rw [hpar] at hA
 rw [hvars] at hV
 obtain ⟨v0, vs0, d0, ds0, p0, q0, ha0, rfl, rfl, h0, hA⟩ := trodAll_cons hA
 obtain ⟨v1, vs1, d1, ds1, p1, q1, rfl, rfl, rfl, h1, hA⟩ := trodAll_cons hA
 obtain ⟨v2, vs2, d2, ds2, p2, q2, rfl, rfl, rfl, h2, hA⟩ := trodAll_cons hA
 obtain ⟨v3, vs3, d3, ds3, p3, q3, rfl, rfl, rfl, h3, hA⟩ := trodAll_cons hA
 obtain ⟨rfl, rfl, rfl⟩ := trodAll_nil hA
 obtain ⟨rfl, rfl⟩ := trodVars_none hV
 have hargs : args = #[v0, v1, v2, v3] := by cases args; simp_all
 subst hargs
 have hp : fn.params = #[22, 3, 3, 3] := by have := hpar; cases hh : fn.params; simp_all
 rw [hp] at hval
 obtain ⟨a0, len, cap, rfl⟩ := okWide_slice Tryz.underlying22 (hval 0 22 v0 rfl rfl)
 obtain ⟨n1, rfl, rfl, rfl, w1⟩ := open_int Tryz.underlying3 (hval 1 3 v1 rfl rfl) h1
 obtain ⟨n2, rfl, rfl, rfl, w2⟩ := open_int Tryz.underlying3 (hval 2 3 v2 rfl rfl) h2
 obtain ⟨n3, rfl, rfl, rfl, w3⟩ := open_int Tryz.underlying3 (hval 3 3 v3 rfl rfl) h3
 have hlt : ∀ x ∈ p0, x.block < W.heap.size := fun x hx => hW'.lt x (by simp [hx])
 have hpost : ∀ W', Below W.heap.size W W' → sp.post enc Tryz.prog fn false true false false W #[.slice a0 len cap, .int .i64 n1, .int .i64 n2, .int .i64 n3] (.bool true) W' := by
  intro W' hB
  refine ⟨_, _, _, [], p0 ++ ([] ++ ([] ++ [])), [], hW', ?_, ?_, ?_, hB.frame _, fun h => by cases h⟩
  ·rw [hrt, hres, List.append_nil, hsp]
   exact trodAll_mk1 (shut_bool Tryz.underlying4 true)
  ·rw [hpar, List.append_nil, hsp]
   exact trodAll_mk4 (Below.trod Tq.laidOut (by kernel_rfl) (of_decide_eq_true (by kernel_rfl)) h0 hB hlt) (shut_int Tryz.underlying3 w1) (shut_int Tryz.underlying3 w2) (shut_int Tryz.underlying3 w3)
  ·rw [List.append_nil, hsp, hvars]
   rfl
 have close : ∀ l, (∃ β s u, Given β s W u (.slice a0 len cap) l) → (∀ x ∈ l, zS x) → ∃ M last o w' t', runNT Tryz.checked.prog (M + 1) (solo (G (Frame.enter Tryz.checked.prog f #[.slice a0 len cap, .int .i64 n1, .int .i64 n2, .int .i64 n3] .normal) []) W) #[] = (.ended o w', t') ∧
    runN Tryz.checked.prog M (solo (G (Frame.enter Tryz.checked.prog f #[.slice a0 len cap, .int .i64 n1, .int .i64 n2, .int .i64 n3] .normal) []) W) = .next last ∧ step Tryz.checked.prog last = .ended o w' ∧
    Conc.Good Tryz.checked.prog (fun v W' => sp.post enc Tryz.checked.prog fn false true false false W #[.slice a0 len cap, .int .i64 n1, .int .i64 n2, .int .i64 n3] v W') last o w' t' := by
  intro l hg hin
  obtain ⟨M, last, o, w', t', e1, e2, e3, e4⟩ := law_run hi hl hg hin (wf_in w1) (wf_in w2) (wf_in w3)
  refine ⟨M, last, o, w', t', e1, e2, e3, e4.mono fun v hF => ?_⟩
  obtain ⟨rfl, hB⟩ := hF
  exact hpost w' hB
 have hok := hval 0 22 _ rfl rfl
 obtain ⟨fuel, hf⟩ := h0
 rcases open_ints Tryz.underlying22 Tryz.underlying3 Tq.cells3 hf with ⟨hcs, hx⟩ | ⟨a, len', cap', zs, hcs, _, hle, hm, hz, hx, hcell, hwz⟩
 ·simp [Value.cells] at hcs
  obtain ⟨rfl, rfl, rfl⟩ := hcs
  exact close [] (given_nil W) (fun x hx => by simp at hx)
 ·simp [Value.cells] at hcs
  obtain ⟨rfl, rfl, rfl⟩ := hcs
  simp only [if_true] at hz
  simp only [Prod.mk.injEq] at hx
  simp only [Value.okWide, Tryz.underlying22, Cell.okWide, Cell.ok] at hok
  obtain ⟨_, _, hhas⟩ := hok
  obtain ⟨_, hspot, row, cells, hshape, _⟩ := hhas
  refine close (zs.take len) (given_slice hspot hz hle ⟨_, hshape⟩ hcell fun i hi => ?_) (fun x hx2 => wf_in (hwz x (List.mem_of_mem_take hx2)))
  refine hfz a.block (a.off + i) ?_
  rw [hx.2]
  simp only [List.mem_append, MemPlace.mem_row]
  exact .inl (.inl ⟨i, by omega, rfl⟩)
theorem fewest_law : LawC 5 := fun s v l a b c hf hl hin ha hb hc hroom => by
 obtain ⟨v', s', h1, h2, _⟩ := undoFewest_ok lawT_plain lawT_least lawT_lives hf hl hin ha hb hc hroom
 subst h2
 exact ⟨s', h1⟩
theorem fewest_named : Tryz.prog.funcNamed Rows.undoFewestRow.func = some 5 := by kernel_rfl
set_option maxRecDepth 100000 in
theorem fewest_closed : joinedFacts Tryz.prog 5 Tryz.f5 Rows.undoFewestSpec Rows.undoFewestRow = true := (xr (xr (xr (xr (xr (xr (xr (xr (xr (xr (xr (xr (xr (xr (xr (xr (xr (xr (xr (xr (xr (xr (xr (xr (xr (xr (xr (xr (xr (xr (xr fewest_k0 fewest_k1) fewest_k2) fewest_k3) fewest_k4) fewest_k5) fewest_k6) fewest_k7) fewest_k8) fewest_k9) fewest_k10) fewest_k11) fewest_k12) fewest_k13) fewest_k14) fewest_k15) fewest_k16) fewest_k17) fewest_k18) fewest_k19) fewest_k20) fewest_k21) fewest_k22) fewest_k23) fewest_k24) fewest_k25) fewest_k26) fewest_k27) fewest_k28) fewest_k29) fewest_k30) fewest_k31)
theorem fewest_inst : Tryz.f5.isInstance Tryz.prog Rows.undoFewestRow.origin Rows.undoFewestRow.targs := of_decide_eq_true (by kernel_rfl)
theorem fewest_wrap : Tryz.f5.isWrapper Tryz.prog Rows.undoFewestRow.wrapper Rows.undoFewestRow.mainSum := by
 unfold Func.isWrapper
 first | (rw [if_pos (by decide +kernel)]; kernel_rfl) | (rw [if_neg (by decide +kernel)]; exact ⟨rfl, rfl⟩)
theorem fewest_init : Tryz.prog.inits.idxOf? 5 = none := by kernel_rfl
theorem fewest_params : Tryz.f5.params.toList = [22, 3, 3, 3] := by kernel_rfl
theorem fewest_types : Tryz.f5.resultTypes.toList = [4] := by kernel_rfl
theorem fewest_v (os : Os) : (World.plainHolding Tryz.prog os ⟨#[], #[.slice none 0 0, .int .i64 0, .int .i64 0, .int .i64 0], []⟩).variablesB Tryz.prog = true := by kernel_rfl
theorem fewest_r (os : Os) : ((World.plainHolding Tryz.prog os ⟨#[], #[.slice none 0 0, .int .i64 0, .int .i64 0, .int .i64 0], []⟩).heap.toList.drop Tryz.prog.globals.size).take ((begin Tryz.prog (fun _ _ => 0) default).world.heap.size - Tryz.prog.globals.size) =
   (begin Tryz.prog (fun _ _ => 0) default).world.heap.toList.drop Tryz.prog.globals.size := by kernel_rfl
theorem fewest_o (os : Os) : Input.okWideB Tryz.prog (World.plainHolding Tryz.prog os ⟨#[], #[.slice none 0 0, .int .i64 0, .int .i64 0, .int .i64 0], []⟩) 5 ⟨#[], #[.slice none 0 0, .int .i64 0, .int .i64 0, .int .i64 0], []⟩ = true := by kernel_rfl
set_option maxRecDepth 100000 in
theorem undoFewest_holds : Rows.UndoFewestSaid :=
 OpenClaim.holds_of_wide_leaving 5 Tryz.f5 rfl rfl rfl rfl rfl rfl rfl ⟨rfl, rfl, rfl, rfl, rfl⟩ rfl rfl rfl rfl rfl fewest_named Tryz.func5 fewest_closed
  fewest_inst fewest_wrap
  (fun os started H enc _ => law_lifted (sp := Rows.undoFewestSpec) os started H enc Tryz.func5 fewest_init fewest_params (fun _ => rfl) fewest_types (fun _ _ _ _ => rfl) rfl
   (ChangeSpec.witness6 (enc := enc) (C := Tryz.checked) false ⟨#[], #[.slice none 0 0, .int .i64 0, .int .i64 0, .int .i64 0], []⟩ 8 (fewest_v os) (fewest_r os) (fewest_o os) (by kernel_rfl)) fewest_law)
#print axioms undoFewest_holds
end Go.Proofs.YtdejleegamcioaaGreat
