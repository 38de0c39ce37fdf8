/- Further operations of the abstract machine, held against the model's own. -/
/- Slices of the abstract machine: what is cut out, and append. -/
/- Append, and the other built-in functions. -/
import Derived.Test.YtdejleegamcioaaGreatL01
namespace Go.M
section
variable {P : Program} {β : Ren} {s : St} {w : World}

/-! ### New blocks -/

theorem room_lt (h : s.room = true) : s.next < 281474976710655 := by
  simpa [St.room, Nat.blt_eq] using h

theorem Ext.row (h : Rel P β s w) (hroom : s.room = true) (hn : β s.next = none) {c : List Value} {c' : Array Value} (e : TypeId) (fz : Nat × Nat)
    (hfz : ∀ i, i < c'.size → ¬ (fz.1 ≤ i ∧ i < fz.2)) (hc : ∀ (i : Nat) (v : Value), c[i]? = some v → ∃ v', c'[i]? = some v' ∧ VRel P β v v') :
    Ext P β s w (β.add s.next ⟨w.heap.size, 0, c'.size, e⟩) (s.new (.cells c e)) { w with heap := w.heap.push (.cells c' e fz) } :=
  Ext.new h (room_lt hroom) hn rfl (.cells rfl (Nat.le_refl _) (by
    cases hn : c.length with
    | zero => exact .inl rfl
    | succ q =>
      right
      obtain ⟨v', h1, _⟩ := hc q c[q] (by simp [hn])
      rcases Nat.lt_or_ge q c'.size with hh | hh
      · simp only; omega
      · rw [Array.getElem?_eq_none hh] at h1; cases h1) (fun i _ hi => hfz i hi) hc)

theorem free_new {o : MObj} (hf : Free β s (s.new o)) : β s.next = none := hf s.next (Nat.le_refl _) (by simp)

theorem box_sound (h : Rel P β s w) {e : TypeId} {c : List Value} {x' : Value} (hx : LRel P β c x'.cells.toList) :
    OpS P β s w (boxM e c s) ((valued (Instr.box e x')).run P w) := by
  unfold boxM
  split
  · rename_i hroom
    intro hf
    have hn := free_new hf
    refine ⟨_, _, .value (.pointer (some ⟨w.heap.size, 0, none⟩)), ?_, Ext.row h hroom hn e (0, 0) (by simp) (c' := x'.cells) (fun i v hv => ?_), _, rfl, ?_⟩
    · simp [valued, Instr.box, newVar, newRow]
    · obtain ⟨v', h1, h2⟩ := hx.get hv
      exact ⟨v', by simpa using h1, h2⟩
    · exact VRel.ptr (m := ⟨w.heap.size, 0, x'.cells.size, e⟩) Ren.add_self
  · exact .stuck

theorem plain1_rel {v : Value} (h : plain1 v = true) : VRel P β v v := by
  cases v with
  | pointer a => cases a with
    | none => exact .pnil
    | some a => simp [plain1] at h
  | map r => cases r with
    | none => exact .mnil
    | some r => simp [plain1] at h
  | slice a l c =>
    cases a with
    | some a => simp [plain1] at h
    | none =>
      cases l with
      | succ l => simp [plain1] at h
      | zero => cases c with
        | succ c => simp [plain1] at h
        | zero => exact .snil
  | bool b => exact .bool b
  | int k n => exact .int k n
  | float k n => exact .float k n
  | complex k a b => exact .complex k a b
  | string t => exact .string t
  | nilFunc => exact .nilFunc
  | nilIface => exact .nilIface
  | _ => simp [plain1] at h

theorem plainL_rel {l : List Value} (h : l.all plain1 = true) : LRel P β l l := by
  induction l with
  | nil => exact .nil
  | cons v l ih => simp only [List.all_cons, Bool.and_eq_true] at h; exact .cons (plain1_rel h.1) (ih h.2)

theorem plainZ_rel {v : Value} (h : plainZ v = true) : VRel P β v v := by
  unfold plainZ at h
  cases v with
  | agg cs => exact .agg (plainL_rel h)
  | _ => exact plain1_rel (by simpa [cellsL] using h)

theorem cellsL_eq (v : Value) : v.cells.toList = cellsL v := by cases v <;> rfl

theorem alloc_sound (h : Rel P β s w) {e : TypeId} : OpS P β s w (guarded (zeroB P e) (allocM P e s)) ((valued (Instr.alloc e true (.tuple #[]))).run P w) := by
  unfold guarded
  split
  · rename_i hz
    unfold allocM
    split
    · rename_i i hi
      split
      · rename_i z hz'
        have hpl : plainZ z = true := by simpa [zeroB, hi, hz'] using hz
        have := box_sound (P := P) (β := β) (s := s) (w := w) h (e := e) (c := cellsL z) (x' := z) (by rw [cellsL_eq]; exact plainL_rel hpl)
        simpa [valued, Instr.box, Instr.alloc, run_zeroValue' hi hz'] using this
      · exact .stuck
    · exact .stuck
  · exact .stuck

/-! ### Addresses -/

theorem field_sound (h : Rel P β s w) {t : TypeId} {x x' : Value} {f : Nat} (hx : VRel P β x x') : OpS P β s w (fieldM P t x f s) ((valued (Instr.fieldAt t x' f)).run P w) := by
  unfold fieldM
  split
  · rename_i b off n hoff
    cases hx with
    | @ptr _ _ m hb =>
      unfold offF at hoff
      split at hoff
      · rename_i fields hu
        split at hoff
        · rename_i fd hfd
          rw [lget_eq] at hfd
          split at hoff
          · rename_i i hi
            split at hoff
            · cases hoff
            · rename_i k hk
              cases hoff
              refine .value h (v' := .pointer (some ⟨m.blk, (off + fd.offset) + m.sh, none⟩)) (.ptr hb) ?_
              have hf' : fields[f]? = some fd := by simpa using hfd
              have e1 : off + m.sh + fd.offset = off + fd.offset + m.sh := by omega
              simp [valued, Instr.fieldAt, run_underlying hu, hf', Instr.sureAddr, fieldPlace, run_sizeOf' hi, hk, add_none, e1]
          · cases hoff
        · cases hoff
      · cases hoff
  · exact .stuck

theorem indexAt_sound (h : Rel P β s w) {n len b off sz : Nat} {m : Img} (hb : β b = some m) {r' : Result Next}
    (hr : n < len → r' = .ok (.value (.pointer (some ⟨m.blk, off + n * sz + m.sh, none⟩))) w) : OpS P β s w (indexAtM n len b off sz s) r' := by
  unfold indexAtM
  split
  · rename_i hlt
    exact .value h (.ptr hb) (hr (by simpa [Nat.blt_eq] using hlt))
  · exact .stuck

theorem index_sound (h : Rel P β s w) {t : TypeId} {x x' i i' : Value} (hx : VRel P β x x') (hi : VRel P β i i') :
    OpS P β s w (indexM P t x i s) ((valued (Instr.indexAt t x' i')).run P w) := by
  unfold indexM
  split
  · rename_i k n
    cases hi with
    | int =>
    split
    · rename_i q sz b off len cap hel
      unfold elemF at hel
      split at hel
      · rename_i e hu
        split at hel
        · rename_i inf hinf
          simp at hel
          obtain ⟨_, rfl⟩ := hel
          have key : ∀ (m : Img) (cap' : Nat), n < len → (valued (Instr.indexAt t (.slice (some ⟨m.blk, off + m.sh, none⟩) len cap') (.int k (Int.ofNat n)))).run P w = .ok (.value (.pointer (some ⟨m.blk, off + n * inf.size + m.sh, none⟩))) w := by
            intro m cap' hlt
            have e1 : off + m.sh + n * inf.size = off + n * inf.size + m.sh := by omega
            simp [valued, Instr.indexAt, asIntOf, run_underlying hu, run_sizeOf' hinf, add_none, e1]
            intro hh; omega
          cases hx with
          | sknown hb => exact indexAt_sound h hb (key _ _)
          | sgrown hb _ _ => exact indexAt_sound h hb (key _ _)
          | sempty hb _ => unfold indexAtM; simp; exact .stuck
          | szero hb => unfold indexAtM; simp; exact .stuck
        · cases hel
      · rename_i k' e hu
        split at hel <;> simp at hel
      · cases hel
    · rename_i len sz b off hel
      unfold elemF at hel
      split at hel
      · rename_i e hu
        split at hel <;> simp at hel
      · rename_i k' e hu
        split at hel
        · rename_i inf hinf
          simp at hel
          obtain ⟨rfl, rfl⟩ := hel
          cases hx with
          | @ptr _ _ m hb =>
            refine indexAt_sound h hb fun hlt => ?_
            have e1 : off + m.sh + n * inf.size = off + n * inf.size + m.sh := by omega
            simp [valued, Instr.indexAt, asIntOf, run_underlying hu, Instr.sureAddr, run_sizeOf' hinf, add_none, e1]
            intro hh; omega
        · cases hel
      · cases hel
    · exact .stuck
  · exact .stuck

/-! ### Arithmetic -/

/-- A small program that does nothing to memory. -/
inductive Scalar : Sem Value → Prop where
  | val {v : Value} (h : plain1 v = true) : Scalar (.pure v)
  | err (m : String) : Scalar (runtimePanic (.error m))
  | stuck (m : String) : Scalar (Go.stuck m)
  | unsupported (u : Unsupported) : Scalar (Go.unsupported u)

theorem Scalar.sound (h : Rel P β s w) {x : Sem Value} (hx : Scalar x) : OpS P β s w ((runA P x s).map .value) ((valued x).run P w) := by
  cases hx with
  | val hv => exact .value h (plain1_rel hv) rfl
  | err m =>
    intro _
    exact ⟨β, w, _, rfl, Ext.refl h, .iface (.string _)⟩
  | stuck m => exact .stuck
  | unsupported u => exact .stuck

theorem scalar_int (op : BinOp) (t : TypeId) (k k' : IntKind) (a b : Int) : Scalar (binOp op t (.int k a) (.int k' b)) := by
  by_cases hk : k = k'
  · subst hk
    cases op <;> simp only [binOp, Op.shift, Op.intArith, Op.intDiv, Op.intBits, Op.intCmp, ne_eq, not_true_eq_false, if_false] <;> (repeat' split) <;>
      first | exact .val rfl | exact .err _
  · cases op <;> simp only [binOp, Op.shift, Op.intArith, Op.intDiv, Op.intBits, Op.intCmp, ne_eq, hk, not_false_eq_true, if_true] <;> (repeat' split) <;>
      first | exact .val rfl | exact .err _ | exact .stuck _

theorem scalar_string (op : BinOp) (t : TypeId) (a b : ByteArray) : Scalar (binOp op t (.string a) (.string b)) := by
  cases op <;> simp only [binOp, Op.stringOp] <;> (repeat' split) <;> first | exact .val rfl | exact .stuck _ | exact .unsupported _

theorem scalar_unary (op : UnOp) (k : IntKind) (n : Int) : Scalar (Op.unary op (.int k n)) := by
  cases op <;> simp only [Op.unary, Op.intArith, Op.intBits] <;> first | exact .val rfl | exact .stuck _

theorem wrap_of_in {n : Int} (h : inI64 n = true) : IntKind.i64.wrap n = n := by
  apply IntWalk.i64_in
  cases n with
  | ofNat a => simp only [inI64, Nat.ble_eq] at h; simp only [Int.ofNat_eq_natCast]; omega
  | negSucc a => simp only [inI64, Nat.ble_eq] at h; simp only [Int.negSucc_eq]; omega

theorem ile_eq (a b : Int) : ile a b = decide (a ≤ b) := by
  cases a with
  | ofNat a => cases b with
    | ofNat b => simp only [ile]; rw [Bool.eq_iff_iff]; simp
    | negSucc b => simp only [ile]; rw [eq_comm, decide_eq_false_iff_not, Int.ofNat_eq_natCast, Int.negSucc_eq]; omega
  | negSucc a => cases b with
    | ofNat b => simp only [ile]; rw [eq_comm, decide_eq_true_eq, Int.ofNat_eq_natCast, Int.negSucc_eq]; omega
    | negSucc b => simp only [ile]; rw [Bool.eq_iff_iff, Nat.ble_eq, decide_eq_true_eq, Int.negSucc_eq, Int.negSucc_eq]; omega
theorem ieq_eq (a b : Int) : ieq a b = (a == b) := by
  cases a with
  | ofNat a => cases b with
    | ofNat b => simp only [ieq]; rw [Bool.eq_iff_iff, Nat.beq_eq, beq_iff_eq, Int.ofNat_eq_natCast, Int.ofNat_eq_natCast]; omega
    | negSucc b => simp only [ieq]; rfl
  | negSucc a => cases b with
    | ofNat b => simp only [ieq]; rfl
    | negSucc b => simp only [ieq]; rw [Bool.eq_iff_iff, Nat.beq_eq, beq_iff_eq, Int.negSucc_inj]

theorem fits_eq {n : Int} {v : Value} (h : fits n = some v) : v = .int .i64 (IntKind.i64.wrap n) := by
  unfold fits at h
  split at h
  · rename_i hn; cases h; rw [wrap_of_in hn]
  · cases h

theorem int64F_sound {op : BinOp} {a b : Int} {v : Value} (h : int64F op a b = some v) (t : TypeId) : binOp op t (.int .i64 a) (.int .i64 b) = .pure v ∧ plain1 v = true := by
  cases op <;> simp only [int64F, Option.some.injEq, reduceCtorEq] at h <;> simp only [binOp, Op.intArith, Op.intCmp, ne_eq, not_true_eq_false, if_false]
  case add => rw [fits_eq h]; exact ⟨rfl, rfl⟩
  case sub => rw [fits_eq h]; exact ⟨rfl, rfl⟩
  case mul => rw [fits_eq h]; exact ⟨rfl, rfl⟩
  all_goals
    subst h
    refine ⟨?_, rfl⟩
    simp only [ile_eq, ieq_eq, Pure.pure, Sem.pure.injEq, Value.bool.injEq] <;>
      first
        | rfl
        | (rw [Bool.eq_iff_iff]; simp only [Bool.not_eq_true', decide_eq_false_iff_not, decide_eq_true_eq]; omega)

theorem int_sound (h : Rel P β s w) (op : BinOp) (t : TypeId) (k k' : IntKind) (a b : Int) :
    OpS P β s w (intM P op t k k' a b s) ((valued (binOp op t (.int k a) (.int k' b))).run P w) := by
  unfold intM
  split
  · split
    · rename_i v hv
      obtain ⟨h1, h2⟩ := int64F_sound hv t
      exact .value h (plain1_rel h2) (by rw [h1]; rfl)
    · exact (scalar_int op t _ _ a b).sound h
  · exact (scalar_int op t _ _ a b).sound h

/-- What is asked before '==' and '!=' lets all but two kinds of pairs by. -/
theorem run_eqGuard' {op : BinOp} {t : TypeId} {x y : Operand} {a b : Value} (h1 : a ≠ .nilIface) (h2 : ∀ cs, a ≠ .agg cs) (w : World) : (eqGuard op t x y a b).run P w = .ok () w := by
  unfold eqGuard
  cases op <;> cases a <;> first | rfl | (exact (h1 rfl).elim) | (exact (h2 _ rfl).elim)

def eqSem (op : BinOp) (t : TypeId) (x y : Operand) (a b : Value) : Sem Value := do eqGuard op t x y a b; binOp op t a b

theorem VRel.guard {x x' : Value} (h : VRel P β x x') (h1 : x ≠ .nilIface) (h2 : ∀ cs, x ≠ .agg cs) : x' ≠ .nilIface ∧ ∀ cs, x' ≠ .agg cs := by
  cases h <;> first | (exact (h1 rfl).elim) | (exact (h2 _ rfl).elim) | (exact ⟨by simp, by simp⟩)

/-- What '==' of this machine gives is what the model's does. -/
theorem eqV_sound {d : TypeDesc} {t : TypeId} {x y x' y' : Value} {r : Bool} (hu : P.underlying t = some d) (hx : VRel P β x x') (hy : VRel P β y y') (h : eqV d x y = some r) (w : World) :
    (Op.equal t x' y').run P w = .ok r w ∧ (x ≠ .nilIface ∧ ∀ cs, x ≠ .agg cs) ∧ (binOp .eql t x' y' = Op.equal t x' y' >>= fun b => pure (.bool b)) ∧ (binOp .neq t x' y' = Op.equal t x' y' >>= fun b => pure (.bool !b)) := by
  have key : ∀ r', (∀ q, (Op.equalIn (q + 1) t x' y').run P w = .ok r' w) → (Op.equal t x' y').run P w = .ok r' w := fun _ h => h 9999
  unfold eqV at h
  cases d <;> simp only at h
  case bool =>
    split at h <;> cases h
    cases hx; cases hy
    exact ⟨key _ (fun q => by simp [Op.equalIn, run_underlying hu]), ⟨by simp, by simp⟩, rfl, rfl⟩
  case pointer e =>
    split at h <;> cases h
    · cases hx
      cases hy
      · exact ⟨key _ (fun q => by simp [Op.equalIn, run_underlying hu]), ⟨by simp, by simp⟩, rfl, rfl⟩
      · exact ⟨key _ (fun q => by simp [Op.equalIn, run_underlying hu]), ⟨by simp, by simp⟩, rfl, rfl⟩
    · cases hx
      cases hy
      exact ⟨key _ (fun q => by simp [Op.equalIn, run_underlying hu]), ⟨by simp, by simp⟩, rfl, rfl⟩
  case slice e =>
    split at h <;> cases h
    · cases hx
      cases hy <;> exact ⟨key _ (fun q => by simp [Op.equalIn, run_underlying hu]), ⟨by simp, by simp⟩, rfl, rfl⟩
    · cases hy
      cases hx <;> exact ⟨key _ (fun q => by simp [Op.equalIn, run_underlying hu]), ⟨by simp, by simp⟩, rfl, rfl⟩
  case map k e =>
    split at h <;> cases h
    · cases hx
      cases hy <;> exact ⟨key _ (fun q => by simp [Op.equalIn, run_underlying hu]), ⟨by simp, by simp⟩, rfl, rfl⟩
    · cases hx
      cases hy
      exact ⟨key _ (fun q => by simp [Op.equalIn, run_underlying hu]), ⟨by simp, by simp⟩, rfl, rfl⟩
  case func ps rs v =>
    split at h <;> cases h
    · cases hx; cases hy
      exact ⟨key _ (fun q => by simp [Op.equalIn, run_underlying hu]), ⟨by simp, by simp⟩, rfl, rfl⟩
    · cases hx; cases hy
      exact ⟨key _ (fun q => by simp [Op.equalIn, run_underlying hu]), ⟨by simp, by simp⟩, rfl, rfl⟩
    · cases hx; cases hy
      exact ⟨key _ (fun q => by simp [Op.equalIn, run_underlying hu]), ⟨by simp, by simp⟩, rfl, rfl⟩
  all_goals cases h

theorem eq_sound (h : Rel P β s w) {op : BinOp} {t : TypeId} {x y x' y' : Value} (hx : VRel P β x x') (hy : VRel P β y y') (a b : Operand) :
    OpS P β s w (eqM P op t x y s) ((valued (eqSem op t a b x' y')).run P w) := by
  unfold eqM
  split
  · rename_i d hu
    split
    · rename_i r hr
      obtain ⟨h1, ⟨h2, h3⟩, h4, _⟩ := eqV_sound hu hx hy hr w
      obtain ⟨g1, g2⟩ := hx.guard h2 h3
      exact .value h (.bool _) (valued_ok (by simp [eqSem, run_eqGuard' g1 g2, h4, h1]))
    · rename_i r hr
      obtain ⟨h1, ⟨h2, h3⟩, _, h4⟩ := eqV_sound hu hx hy hr w
      obtain ⟨g1, g2⟩ := hx.guard h2 h3
      exact .value h (.bool _) (valued_ok (by simp [eqSem, run_eqGuard' g1 g2, h4, h1]))
    · exact .stuck
  · exact .stuck

theorem bin_sound (h : Rel P β s w) {op : BinOp} {t : TypeId} {x y x' y' : Value} (hx : VRel P β x x') (hy : VRel P β y y') (a b : Operand) :
    OpS P β s w (binM P op t x y s) ((valued (eqSem op t a b x' y')).run P w) := by
  unfold binM
  split
  · rename_i k p k' q
    cases hx; cases hy
    have := int_sound h op t k k' p q
    have e : (valued (eqSem op t a b (.int k p) (.int k' q))).run P w = (valued (binOp op t (.int k p) (.int k' q))).run P w := by
      simp [valued, eqSem, run_eqGuard' (P := P) (a := .int k p) (by simp) (by simp)]
    rw [e]; exact this
  · rename_i p q
    cases hx; cases hy
    have := (scalar_string op t p q).sound h
    have e : (valued (eqSem op t a b (.string p) (.string q))).run P w = (valued (binOp op t (.string p) (.string q))).run P w := by
      simp [valued, eqSem, run_eqGuard' (P := P) (a := .string p) (by simp) (by simp)]
    rw [e]; exact this
  · exact eq_sound h hx hy a b

theorem un_sound (h : Rel P β s w) {op : UnOp} {x x' : Value} (hx : VRel P β x x') : OpS P β s w (unM P op x s) ((valued (Op.unary op x')).run P w) := by
  unfold unM
  split
  · split
    · cases hx; exact .value h (.bool _) rfl
    · exact .stuck
  · rename_i k n
    cases hx; exact (scalar_unary op k n).sound h
  · exact .stuck

theorem extract_sound (h : Rel P β s w) {x x' : Value} {i : Nat} (hx : VRel P β x x') : OpS P β s w (extractM x i s) ((valued (Instr.extract x' i)).run P w) := by
  unfold extractM
  split
  · cases hx with
    | tuple hl =>
      split
      · rename_i v hv
        rw [lget_eq] at hv
        obtain ⟨v', h1, h2⟩ := hl.get hv
        exact .value h h2 (valued_ok (by simp [Instr.extract, h1]))
      · exact .stuck
  · exact .stuck

theorem pick_sound (h : Rel P β s w) {c a b c' a' b' : Value} (hc : VRel P β c c') (ha : VRel P β a a') (hb : VRel P β b b') :
    OpS P β s w (pickM c a b s) ((do pure (Next.value (if ← asBool c' then a' else b')) : Sem Next).run P w) := by
  unfold pickM
  split
  · cases hc; exact .value h ha rfl
  · cases hc; exact .value h hb rfl
  · exact .stuck

theorem iface_sound (h : Rel P β s w) {t : TypeId} {x x' : Value} (hx : VRel P β x x') : OpS P β s w (ifaceM P t x s) ((valued (Instr.makeInterface t x')).run P w) := by
  unfold ifaceM
  split
  · exact .stuck
  · rename_i d n hu
    refine .value h (.iface hx) (valued_ok ?_)
    simp only [Instr.makeInterface, Sem.run_bind, run_underlying hu, Result.andThen_ok]
    cases d <;> first | rfl | (exact (n _ rfl).elim)
  · exact .stuck

theorem panic_sound (h : Rel P β s w) {x x' : Value} (hx : VRel P β x x') : OpS P β s w (panicM x s) ((valued (Instr.panic x')).run P w) := by
  unfold panicM
  split
  · cases hx with
    | iface hv => exact fun _ => ⟨β, w, _, rfl, Ext.refl h, .iface hv⟩
  · exact .stuck

theorem map_sound (h : Rel P β s w) {t : TypeId} : OpS P β s w (mapM s) ((valued (Instr.makeMap t none)).run P w) := by
  unfold mapM
  split
  · rename_i hroom
    intro hf
    have hn := free_new hf
    refine ⟨_, _, .value (.map (some w.heap.size)), ?_, Ext.new h (room_lt hroom) hn (m := ⟨w.heap.size, 0, 0, 0⟩) rfl (.map (es' := #[]) rfl (by simp)), _, rfl, ?_⟩
    · simp [valued, Instr.makeMap]
    · exact VRel.mref (m := ⟨w.heap.size, 0, 0, 0⟩) Ren.add_self
  · exact .stuck
end
end Go.M
namespace Go.M
section
variable {P : Program} {β : Ren} {s : St} {w : World}

theorem Rel.of_heap (h : Rel P β s w) {w' : World} (e : w'.heap = w.heap) : Rel P β s w' where
  img := by rw [e]; exact h.img
  obj := by rw [e]; exact h.obj
  inj := h.inj
  room := h.room
  top := h.top

/-- A draw changes nothing of this. -/
theorem Ext.drew {β' : Ren} {s' : St} {w' w'' : World} (h : Ext P β s w β' s' w') (e : w''.heap = w'.heap) (h1 : w''.os = w'.os) (h2 : w''.output = w'.output) (h3 : w''.tape = w'.tape) : Ext P β s w β' s' w'' where
  rel := h.rel.of_heap e
  le := h.le
  dom := h.dom
  next := h.next
  bar := h.bar
  prot := h.prot
  size := by rw [e]; exact h.size
  out := by rw [e]; exact h.out
  same := h.same
  dead := h.dead
  fresh := h.fresh
  os := h1.trans h.os
  output := h2.trans h.output
  tape := h3.trans h.tape

/-- A block that is given up. -/
theorem Ext.kill (h : Rel P β s w) {b : Nat} (hlt : b < s.next) (hmay : s.may b = true) : Ext P β s w β (s.put b none) w := by
  have hroom := h.room
  have gp := fun b' => St.get_put (s := s) (b := b) (by omega) none b'
  have live : ∀ b' o', (s.put b none).get b' = some o' → s.get b' = some o' := fun b' o' hh => by
    rw [gp] at hh
    split at hh
    · cases hh
    · exact hh
  exact {
    rel := {
      img := h.img
      obj := fun b' m' o' hb' hlt' hg' => h.obj b' m' o' hb' hlt' (live _ _ hg')
      inj := fun b1 b2 m1 m2 o1 o2 h1 h2 l1 l2 g1 g2 e => h.inj b1 b2 m1 m2 _ _ h1 h2 l1 l2 (live _ _ g1) (live _ _ g2) e
      room := h.room
      top := fun b' hb' => by rw [gp]; split; · rfl
                              · exact h.top b' hb' }
    le := Ren.le_refl β
    dom := fun b' m' h1 h2 => by rw [h2] at h1; cases h1
    next := Nat.le_refl _
    bar := rfl
    prot := rfl
    size := Nat.le_refl _
    out := fun _ _ _ => rfl
    same := fun b' hb' hm => by rw [gp, if_neg (fun e => by rw [e, hmay] at hm; cases hm)]
    dead := fun b' hb' hd => by rw [gp]; split; · rfl
                                · exact hd
    fresh := fun b' m' h1 h2 => by rw [h2] at h1; cases h1
    os := rfl
    output := rfl
    tape := rfl }

/-- A block that is given up for a new one at the same place of memory. -/
theorem Ext.move (h : Rel P β s w) {b : Nat} {m m₁ : Img} {o : MObj} (hb : β b = some m) (hg : s.get b = some o) (hmay : s.may b = true) (hroom : s.room = true) (hn : β s.next = none)
    (hblk : m₁.blk = m.blk) {o₁ : MObj} {w' : World} (hsize : w'.heap.size = w.heap.size) (hsame : ∀ r, r ≠ m.blk → w'.heap[r]? = w.heap[r]?)
    (hnew : ∃ o', w'.heap[m.blk]? = some o' ∧ ORel P β m₁ o₁ o') (hos : w'.os = w.os) (hout : w'.output = w.output) (htape : w'.tape = w.tape) :
    Ext P β s w (β.add s.next m₁) ((s.put b none).new o₁) w' := by
  have hlt := h.lt hg
  have hr := h.room
  have hr2 := room_lt hroom
  have gp : ∀ b', ((s.put b none).new o₁).get b' = if b' = s.next then some o₁ else if b' = b then none else s.get b' := fun b' => by
    rw [St.get_new (s := s.put b none) (by simpa using by omega) o₁ b', St.get_put (s := s) (b := b) (by omega) none b']
    rfl
  have hle : β.le (β.add s.next m₁) := Ren.le_add hn
  have at_ : ∀ b m', β.add s.next m₁ b = some m' → b ≠ s.next → β b = some m' := fun b m' hh ne => by simpa [Ren.add, ne] using hh
  have img := h.img b m hb hlt
  exact {
    rel := {
      img := fun b' m' hb' hlt' => by
        rw [hsize]
        by_cases e : b' = s.next
        · subst e; rw [Ren.add_self] at hb'; cases hb'; omega
        · exact h.img b' m' (at_ b' m' hb' e) (by simp at hlt'; omega)
      obj := fun b' m' o' hb' hlt' hg' => by
        rw [gp] at hg'
        by_cases e : b' = s.next
        · subst e
          rw [if_pos rfl] at hg'; cases hg'
          rw [Ren.add_self] at hb'; cases hb'
          obtain ⟨o'', h1, h2⟩ := hnew
          exact ⟨o'', by rw [hblk]; exact h1, h2.mono hle⟩
        · rw [if_neg e] at hg'
          split at hg'
          · cases hg'
          · rename_i ne
            have hb'' := at_ b' m' hb' e
            have hlt'' : b' < s.next := by simp at hlt'; omega
            obtain ⟨o'', h1, h2⟩ := h.obj b' m' o' hb'' hlt'' hg'
            refine ⟨o'', ?_, h2.mono hle⟩
            rw [hsame m'.blk (fun e => ne (h.inj b' b m' m o' o hb'' hb hlt'' hlt hg' hg e))]
            exact h1
      inj := fun b1 b2 m1 m2 o1 o2 h1 h2 l1 l2 g1 g2 e => by
        rw [gp] at g1 g2
        have other : ∀ b2 m2 o2, β.add s.next m₁ b2 = some m2 → b2 < s.next + 1 → b2 ≠ s.next → (if b2 = b then none else s.get b2) = some o2 → m2.blk ≠ m₁.blk := fun b2 m2 o2 h2 l2 e2 g2 heq => by
          split at g2
          · cases g2
          · rename_i ne
            exact ne (h.inj b2 b m2 m o2 o (at_ _ _ h2 e2) hb (by omega) hlt g2 hg (by rw [heq, hblk]))
        by_cases e1 : b1 = s.next
        · by_cases e2 : b2 = s.next
          · omega
          · rw [if_neg e2] at g2
            subst e1; rw [Ren.add_self] at h1; cases h1
            exact (other b2 m2 o2 h2 (by simpa using l2) e2 g2 e.symm).elim
        · by_cases e2 : b2 = s.next
          · rw [if_neg e1] at g1
            subst e2; rw [Ren.add_self] at h2; cases h2
            exact (other b1 m1 o1 h1 (by simpa using l1) e1 g1 e).elim
          · rw [if_neg e1] at g1; rw [if_neg e2] at g2
            split at g1
            · cases g1
            · split at g2
              · cases g2
              · exact h.inj b1 b2 m1 m2 o1 o2 (at_ _ _ h1 e1) (at_ _ _ h2 e2) (by simp at l1; omega) (by simp at l2; omega) g1 g2 e
      room := by simp; omega
      top := fun b' hb' => by
        simp at hb'
        rw [gp, if_neg (by omega)]
        split
        · rfl
        · exact h.top b' (by omega) }
    le := hle
    dom := fun b' m' h1 h2 => by
      by_cases e : b' = s.next
      · subst e; simp
      · rw [at_ b' m' h1 e] at h2; cases h2
    next := by simp
    bar := rfl
    prot := rfl
    size := by omega
    out := fun r hr hno => hsame r (fun e => hno b m o hb hlt hmay hg e.symm)
    same := fun b' hb' hm => by rw [gp, if_neg (by omega), if_neg (fun e => by rw [e, hmay] at hm; cases hm)]
    dead := fun b' hb' hd => by
      rw [gp, if_neg (by omega)]
      split
      · rfl
      · exact hd
    fresh := fun b' m' h1 h2 => by
      by_cases e : b' = s.next
      · subst e; rw [Ren.add_self] at h1; cases h1
        exact .inr ⟨b, m, o, hb, hlt, hmay, hg, hblk.symm⟩
      · rw [at_ b' m' h1 e] at h2; cases h2
    os := hos
    output := hout
    tape := htape }

/-! ### Slices of slices -/

theorem boundM_sound {v v' : Option Value} {d n : Nat} (h : boundM v d = some n) (hv : ∀ x, v = some x → ∃ x', v' = some x' ∧ VRel P β x x') (hn : v = none → v' = none) :
    (v = none ∧ v' = none ∧ n = d) ∨ ∃ k, v = some (.int k (.ofNat n)) ∧ v' = some (.int k (.ofNat n)) := by
  cases v with
  | none => simp [boundM] at h; exact .inl ⟨rfl, hn rfl, h.symm⟩
  | some x =>
    obtain ⟨x', h1, h2⟩ := hv x rfl
    unfold boundM at h
    split at h
    · rename_i e; cases e
    · rename_i k q e
      cases e
      cases h
      cases h2
      exact .inr ⟨k, rfl, h1⟩
    · cases h

theorem run_sliceBound {k : IntKind} {n y : Nat} (code : BoundsCode) (h : n ≤ y) (w : World) : (Instr.sliceBound (.int k (n : Int)) y code).run P w = .ok n w := by
  simp [Instr.sliceBound, asIntOf]
  intro hh; omega

/-- The three bounds, as the model takes them. -/
theorem run_sliceBounds {isS : Bool} {len cap l h m : Nat} {lo hi mx : Option Value}
    (hlo : (lo = none ∧ l = 0) ∨ ∃ k, lo = some (.int k (.ofNat l))) (hhi : (hi = none ∧ h = len ∧ mx = none) ∨ ∃ k, hi = some (.int k (.ofNat h)))
    (hmx : (mx = none ∧ m = cap) ∨ ∃ k, mx = some (.int k (.ofNat m))) (h1 : l ≤ h) (h2 : h ≤ m) (h3 : m ≤ cap) (w : World) :
    (Instr.sliceBounds isS len cap lo hi mx).run P w = .ok (l, h, m) w := by
  rcases hlo with ⟨rfl, rfl⟩ | ⟨kl, rfl⟩ <;> rcases hhi with ⟨rfl, rfl, hm0⟩ | ⟨kh, rfl⟩ <;> rcases hmx with ⟨rfl, rfl⟩ | ⟨km, rfl⟩ <;>
    first
      | (cases hm0; done)
      | simp [Instr.sliceBounds, run_sliceBound _ h1, run_sliceBound _ h2, run_sliceBound _ h3]

theorem cut_known {m : Img} {b off l mm c sz len : Nat} (hb : β b = some m) :
    VRel P β (.slice (if Nat.beq mm l then some ⟨b, off, none⟩ else (some ⟨b, off, none⟩ : Option Addr).map (·.add (l * sz))) len (2 * c))
      (.slice (if mm = l then some ⟨m.blk, off + m.sh, none⟩ else some ((⟨m.blk, off + m.sh, none⟩ : Addr).add (l * sz))) len c) := by
  by_cases e : mm = l
  · have : Nat.beq mm l = true := by simp [e]
    rw [this, if_pos rfl, if_pos e]
    exact .sknown hb
  · have : Nat.beq mm l = false := by rw [Bool.eq_false_iff]; intro hh; exact e (Nat.eq_of_beq_eq_true hh)
    rw [this, if_neg (by simp), if_neg e]
    simp only [Option.map_some, add_none]
    rw [show off + m.sh + l * sz = off + l * sz + m.sh by omega]
    exact .sknown hb

theorem bounds_of {lo hi mx lo' hi' mx' : Option Value} {len c l h m : Nat} (hl : boundM lo 0 = some l) (hh : boundM hi len = some h) (hm : boundM mx c = some m)
    (rlo : ∀ x, lo = some x → ∃ x', lo' = some x' ∧ VRel P β x x') (nlo : lo = none → lo' = none)
    (rhi : ∀ x, hi = some x → ∃ x', hi' = some x' ∧ VRel P β x x') (nhi : hi = none → hi' = none)
    (rmx : ∀ x, mx = some x → ∃ x', mx' = some x' ∧ VRel P β x x') (nmx : mx = none → mx' = none) (hb : (hi.isSome || !mx.isSome) = true) :
    ((lo' = none ∧ l = 0) ∨ ∃ k, lo' = some (.int k (.ofNat l))) ∧ ((hi' = none ∧ h = len ∧ mx' = none) ∨ ∃ k, hi' = some (.int k (.ofNat h))) ∧
      ((mx' = none ∧ mx = none ∧ m = c) ∨ (mx.isSome = true ∧ ∃ k, mx' = some (.int k (.ofNat m)))) := by
  refine ⟨?_, ?_, ?_⟩
  · rcases boundM_sound hl rlo nlo with ⟨_, h2, h3⟩ | ⟨k, _, h2⟩
    · exact .inl ⟨h2, h3⟩
    · exact .inr ⟨k, h2⟩
  · rcases boundM_sound hh rhi nhi with ⟨h1, h2, h3⟩ | ⟨k, _, h2⟩
    · subst h1
      refine .inl ⟨h2, h3, nmx ?_⟩
      cases mx with
      | none => rfl
      | some x => simp at hb
    · exact .inr ⟨k, h2⟩
  · rcases boundM_sound hm rmx nmx with ⟨h1, h2, h3⟩ | ⟨k, h1, h2⟩
    · exact .inl ⟨h2, h1, h3⟩
    · exact .inr ⟨by simp [h1], k, h2⟩

theorem opt_map_rel {ρ ρ' : Operand → Value} {o : Option Operand} (h : ∀ x, o = some x → VRel P β (ρ x) (ρ' x)) :
    (∀ x, o.map ρ = some x → ∃ x', o.map ρ' = some x' ∧ VRel P β x x') ∧ (o.map ρ = none → o.map ρ' = none) := by
  cases o with
  | none => exact ⟨by simp, by simp⟩
  | some q => exact ⟨fun x hx => by simp at hx; subst hx; exact ⟨_, rfl, h q rfl⟩, by simp⟩

/-- What the model gives for 'x[lo:hi:mx]', once its bounds are taken. -/
theorem run_slice_slice {t e : TypeId} {inf : TypeInfo} (hu : P.underlying t = some (.slice e)) (hi : P.info? e = some inf) {a : Option Addr} {len cap l h m : Nat} {lo hi' mx : Option Value}
    (hb : (Instr.sliceBounds true len cap lo hi' mx).run P w = .ok (l, h, m) w) :
    (valued (Instr.sliceAt t (.slice a len cap) lo hi' mx)).run P w = .ok (.value (.slice (if m = l then a else a.map (·.add (l * inf.size))) (h - l) (m - l))) w := by
  simp [valued, Instr.sliceAt, Instr.slice, run_underlying hu, hb, run_sizeOf' hi]

theorem sliceS_sound (h : Rel P β s w) {t e : TypeId} {inf : TypeInfo} (hu : P.underlying t = some (.slice e)) (hinf : P.info? e = some inf) {a : Option Addr} {len cap : Nat} {x' : Value}
    (hx : VRel P β (.slice a len cap) x') {known : Bool} (hk : known = true → cap % 2 = 0) (hk' : known = false → cap % 2 = 1 ∧ rowB e a cap s = true) {lo hi mx lo' hi' mx' : Option Value}
    (rlo : ∀ x, lo = some x → ∃ x', lo' = some x' ∧ VRel P β x x') (nlo : lo = none → lo' = none)
    (rhi : ∀ x, hi = some x → ∃ x', hi' = some x' ∧ VRel P β x x') (nhi : hi = none → hi' = none)
    (rmx : ∀ x, mx = some x → ∃ x', mx' = some x' ∧ VRel P β x x') (nmx : mx = none → mx' = none) :
    OpS P β s w (sliceS inf.size a len (cap / 2) known lo hi mx s) ((valued (Instr.sliceAt t x' lo' hi' mx')).run P w) := by
  unfold sliceS
  split
  · rename_i l hh m e1 e2 e3
    split
    · rename_i hbs
      simp only [Bool.and_eq_true, Nat.ble_eq] at hbs
      obtain ⟨⟨⟨g1, g2⟩, g3⟩, g4⟩ := hbs
      obtain ⟨b1, b2, b3⟩ := bounds_of e1 e2 e3 rlo nlo rhi nhi rmx nmx g4
      -- the model's bounds, for whatever capacity it has that is at least what this machine knows
      have run : ∀ (a' : Option Addr) (cap' : Nat), cap / 2 ≤ cap' → (mx = none → known = false ∨ cap' = cap / 2) →
          (valued (Instr.sliceAt t (.slice a' len cap') lo' hi' mx')).run P w =
            .ok (.value (.slice (if (if mx.isSome then m else cap') = l then a' else a'.map (·.add (l * inf.size))) (hh - l) ((if mx.isSome then m else cap') - l))) w := by
        intro a' cap' hc _
        refine run_slice_slice hu hinf (run_sliceBounds b1 b2 ?_ g1 ?_ ?_ w)
        · rcases b3 with ⟨h1, h2, _⟩ | ⟨h1, k, h2⟩
          · exact .inl ⟨h1, by simp [h2]⟩
          · exact .inr ⟨k, by simp [h1, h2]⟩
        · rcases b3 with ⟨h1, h2, h3⟩ | ⟨h1, k, h2⟩
          · simp only [h2, Option.isSome_none]; simp; omega
          · simp only [h1]; simp; omega
        · rcases b3 with ⟨h1, h2, h3⟩ | ⟨h1, k, h2⟩
          · simp [h2]
          · simp only [h1]; simp; omega
      split
      · rename_i hkm
        -- the new capacity is known
        cases hx with
        | snil =>
          have hm0 : m = 0 := by omega
          have hl0 : l = 0 := by omega
          have hh0 : hh = 0 := by omega
          subst hm0 hl0 hh0
          refine .value h (v' := .slice none 0 0) ?_ ?_
          · simp; exact .snil
          · rw [run none 0 (by omega) (fun _ => .inr rfl)]
            simp
        | @sknown b off _ c mg hb =>
          have hc2 : 2 * c / 2 = c := by omega
          rw [hc2] at *
          have hmm : (if mx.isSome then m else c) = m := by
            rcases b3 with ⟨_, h2, h3⟩ | ⟨h1, _⟩
            · simp [h2, h3]
            · simp [h1]
          refine .value h (cut_known (m := mg) hb) ?_
          rw [run _ c (by omega) (fun _ => .inr (by omega)), hmm]
          simp
        | @szero b off off' mg hb =>
          have hm0 : m = 0 := by omega
          have hl0 : l = 0 := by omega
          have hh0 : hh = 0 := by omega
          subst hm0 hl0 hh0
          refine .value h (.szero (off' := off') hb) ?_
          rw [run _ 0 (by omega) (fun _ => .inr rfl)]
          simp
        | @sgrown b off _ c cap' mg hb hc hs =>
          have hc2 : (2 * c + 1) / 2 = c := by omega
          rw [hc2] at *
          have hmx : mx.isSome = true := by
            cases known with
            | true => have := hk rfl; omega
            | false => simpa using hkm
          refine .value h (cut_known (m := mg) hb) ?_
          rw [run _ cap' (by omega) (fun h0 => by rw [h0] at hmx; simp at hmx), hmx]
          simp
        | @sempty b off off' cap' mg hb hs =>
          have hm0 : m = 0 := by omega
          have hl0 : l = 0 := by omega
          have hh0 : hh = 0 := by omega
          subst hm0 hl0 hh0
          have hmx : mx.isSome = true := by
            cases known with
            | true => have := hk rfl; omega
            | false => simpa using hkm
          refine .value h (.szero (off' := off') hb) ?_
          rw [run _ cap' (by omega) (fun h0 => by rw [h0] at hmx; simp at hmx), hmx]
          simp
      · rename_i hkm
        -- it isn't
        have hk0 : known = false := by cases known <;> simp at hkm; rfl
        have hmx : mx = none := by cases mx <;> simp [hk0] at hkm; rfl
        obtain ⟨hcap, hrow⟩ := hk' hk0
        have hm : m = cap / 2 := by
          rcases b3 with ⟨_, _, h3⟩ | ⟨h1, _⟩
          · exact h3
          · simp [hmx] at h1
        cases hx with
        | snil => simp at hcap
        | sknown hb => omega
        | szero hb => simp at hcap
        | @sgrown b off _ c cap' mg hb hc hs =>
          have hc2 : (2 * c + 1) / 2 = c := by omega
          rw [hc2] at *
          subst hm
          have hsz : P.cellsOf mg.elem = inf.size := by
            unfold rowB at hrow
            rw [hcap] at hrow
            simp only at hrow
            split at hrow
            · rename_i cc e' hg
              have he := Nat.eq_of_beq_eq_true hrow
              obtain ⟨h1, _⟩ := h.row hb hg
              rw [← h1, ← he]
              simp [Program.cellsOf, hinf]
            · cases hrow
          have hrun := run (some ⟨mg.blk, off + mg.sh, none⟩) cap' (by omega) (fun _ => .inl hk0)
          rw [hmx] at hrun
          simp only [Option.isSome_none, Bool.false_eq_true, if_false] at hrun
          by_cases hcl : cap' = l
          · subst hcl
            have : hh = cap' := by omega
            subst this
            have : c = hh := by omega
            subst this
            simp only [Nat.sub_self, Option.map_some]
            rw [add_none, show 2 * ((2 * c + 1) / 2 - c) + 1 = 1 by omega]
            refine .value h (.sempty hb (off' := off + mg.sh) (cap := 0) (by omega)) ?_
            rw [hrun]; simp
          · rw [if_neg hcl] at hrun
            simp only [Option.map_some, add_none] at hrun ⊢
            rw [show off + mg.sh + l * inf.size = off + l * inf.size + mg.sh by omega] at hrun
            refine .value h (.sgrown hb (by omega) ?_) hrun
            rw [hsz] at hs ⊢
            have : (cap' - l) * inf.size + l * inf.size = cap' * inf.size := by rw [← Nat.add_mul]; congr 1; omega
            omega
        | @sempty b off off' cap' mg hb hs =>
          have hl0 : l = 0 := by omega
          have hh0 : hh = 0 := by omega
          have hm0 : m = 0 := by omega
          subst hl0 hh0 hm0
          have hrun := run (some ⟨mg.blk, off', none⟩) cap' (by omega) (fun _ => .inl hk0)
          rw [hmx] at hrun
          simp only [Option.isSome_none, Bool.false_eq_true, if_false] at hrun
          simp only [Nat.sub_self, Nat.mul_zero, Nat.zero_add, Option.map_some, Nat.zero_mul, add_none] at hrun ⊢
          refine .value h (.sempty hb (off' := off') (cap := cap') hs) ?_
          rw [hrun]
          simp
    · exact .stuck
  · exact .stuck
end
end Go.M
namespace Go.M
section
variable {P : Program} {β : Ren} {s : St} {w : World}

theorem slice_sound (h : Rel P β s w) {t : TypeId} {x x' : Value} (hx : VRel P β x x') {lo hi mx lo' hi' mx' : Option Value}
    (rlo : ∀ x, lo = some x → ∃ x', lo' = some x' ∧ VRel P β x x') (nlo : lo = none → lo' = none)
    (rhi : ∀ x, hi = some x → ∃ x', hi' = some x' ∧ VRel P β x x') (nhi : hi = none → hi' = none)
    (rmx : ∀ x, mx = some x → ∃ x', mx' = some x' ∧ VRel P β x x') (nmx : mx = none → mx' = none) :
    OpS P β s w (sliceM P t x lo hi mx s) ((valued (Instr.sliceAt t x' lo' hi' mx')).run P w) := by
  unfold sliceM
  split
  · rename_i e hu
    split
    · rename_i inf a len cap hinf
      split
      · rename_i hc
        exact sliceS_sound h hu hinf hx (fun _ => hc) (by simp) rlo nlo rhi nhi rmx nmx
      · rename_i hc
        split
        · rename_i hrow
          exact sliceS_sound h hu hinf hx (by simp) (fun _ => ⟨(Nat.mod_two_eq_zero_or_one cap).resolve_left hc, hrow⟩) rlo nlo rhi nhi rmx nmx
        · exact .stuck
    · exact .stuck
  · rename_i hu
    split
    · rename_i b
      cases hx
      unfold cutB
      split
      · rename_i l hh e1 e2
        split
        · rename_i hb
          simp only [Bool.and_eq_true, Nat.ble_eq] at hb
          obtain ⟨b1, b2, _⟩ := bounds_of (c := b.size) (m := b.size) (mx := none) (mx' := none) e1 e2 rfl rlo nlo rhi nhi (by simp) (by simp) (by simp)
          have hb' := run_sliceBounds (P := P) (isS := false) b1 b2 (mx := none) (.inl ⟨rfl, rfl⟩) hb.1 hb.2 (Nat.le_refl b.size) w
          have hm := nmx rfl
          subst hm
          refine .value h (.string _) ?_
          simp [valued, Instr.sliceAt, Instr.slice, run_underlying hu, hb']
        · exact .stuck
      · exact .stuck
    · exact .stuck
  · rename_i n e hu
    split
    · rename_i inf b off hinf
      cases hx with
      | @ptr _ _ mg hb =>
        unfold sliceS
        split
        · rename_i l hh m e1 e2 e3
          split
          · rename_i hbs
            simp only [Bool.and_eq_true, Nat.ble_eq] at hbs
            obtain ⟨⟨⟨g1, g2⟩, g3⟩, g4⟩ := hbs
            obtain ⟨b1, b2, b3⟩ := bounds_of e1 e2 e3 rlo nlo rhi nhi rmx nmx g4
            have hb' := run_sliceBounds (P := P) (isS := false) b1 b2 (cap := n) (m := m) (by
              rcases b3 with ⟨h1, _, h3⟩ | ⟨_, k, h2⟩
              · exact .inl ⟨h1, h3⟩
              · exact .inr ⟨k, h2⟩) g1 g2 g3 w
            simp only [Bool.true_or]
            refine .value h (cut_known (m := mg) hb) ?_
            by_cases hml : m = l
            · simp [valued, Instr.sliceAt, Instr.sureAddr, run_underlying hu, hb', run_sizeOf' hinf, hml]
            · simp [valued, Instr.sliceAt, Instr.sureAddr, run_underlying hu, hb', run_sizeOf' hinf, hml]
          · exact .stuck
        · exact .stuck
    · exact .stuck
  · exact .stuck

/-! ### The first cells of a slice or a string -/

theorem mapL_eq {α γ : Type} (f : α → γ) (l : List α) : mapL f l = l.map f := by
  induction l with
  | nil => rfl
  | cons x l ih => simp [mapL, ih]

theorem bytes_rel (l : List UInt8) : LRel P β (mapL (fun c : UInt8 => Value.int .u8 c.toNat) l) (l.map fun c => Value.int .u8 c.toNat) := by
  induction l with
  | nil => exact .nil
  | cons c l ih => exact .cons (.int _ _) ih

theorem firstL_sound (h : Rel P β s w) {sz n : Nat} {x x' : Value} (hx : VRel P β x x') {l : List Value} (hl : firstL sz n x s = some l) (hn : ∀ a len cap, x = .slice a len cap → n ≤ len) :
    ∃ l', (Builtin.firstCells sz n x').run P w = .ok ⟨l'⟩ w ∧ LRel P β l l' := by
  unfold firstL at hl
  split at hl
  · cases hx
    cases hl
    exact ⟨[], rfl, .nil⟩
  · rename_i b off len cap
    have hn' := hn _ _ _ rfl
    split at hl
    · rename_i c e hg
      have zero : n = 0 → ∀ a : Addr, ∀ len' cap' : Nat, (Builtin.firstCells sz n (.slice (some a) len' cap')).run P w = .ok ⟨[]⟩ w ∧ l = [] := fun h0 a len' cap' => by
        subst h0
        simp only [Nat.zero_mul] at hl
        refine ⟨by simp [Builtin.firstCells, loadCells, loadCellsFrom], ?_⟩
        simpa [ltake] using hl.symm
      cases hx with
      | sknown hb => exact loadCells_sound h hb hg hl
      | sgrown hb _ _ => exact loadCells_sound h hb hg hl
      | sempty hb _ =>
        obtain ⟨h1, h2⟩ := zero (by omega) _ _ _
        exact ⟨[], h1, by rw [h2]; exact .nil⟩
      | szero hb =>
        obtain ⟨h1, h2⟩ := zero (by omega) _ _ _
        exact ⟨[], h1, by rw [h2]; exact .nil⟩
    · cases hl
  · rename_i t
    split at hl
    · rename_i hsz
      have hsz := Nat.eq_of_beq_eq_true hsz
      subst hsz
      cases hx
      cases hl
      refine ⟨_, ?_, bytes_rel _⟩
      have : (t.extract 0 t.size) = t := ByteArray.extract_zero_size
      simp only [Builtin.firstCells, this]
      show Result.ok _ _ = _
      congr 1
      apply Array.ext'
      simp
    · cases hl
  · cases hl

theorem lenV_sound {x x' : Value} {n : Nat} (hx : VRel P β x x') (hn : lenV x = some n) : (∀ u : World, (Builtin.lenOf x').run P u = .ok n u) ∧ ∀ a len cap, x = .slice a len cap → n ≤ len := by
  unfold lenV at hn
  split at hn
  · rename_i a len cap
    cases hn
    refine ⟨?_, fun a' len' cap' e => by cases e; exact Nat.le_refl _⟩
    cases hx <;> exact fun _ => rfl
  · cases hn
    cases hx
    exact ⟨fun _ => rfl, by simp⟩
  · cases hn

/-! ### Append -/

def isIntD : TypeDesc → Bool
  | .int _ => true
  | _ => false

/-- What is appended, as the model takes it. -/
def Appended (P : Program) (w : World) (d : TypeDesc) (inf : TypeInfo) (x' : Value) (n : Nat) (new' : List Value) : Prop :=
  (isIntD d = true → x' = .int .i64 (n : Int) ∧ n ≤ 1000000 ∧ n * (inf.bytes + 1) ≤ 1073741824 ∧ ∃ z, inf.zero = some z ∧ new' = if n * inf.size = 0 then [] else (Builtin.zeroCells z.cells n).toList) ∧
  (isIntD d = false → (∀ u : World, (Builtin.lenOf x').run P u = .ok n u) ∧ (Builtin.firstCells inf.size n x').run P w = .ok ⟨new'⟩ w)

theorem zeroCells_plain {z : Array Value} {n : Nat} (h : z.toList.all plain1 = true) (hz : z.size ≠ 0) : (Builtin.zeroCells z n).toList.all plain1 = true := by
  rw [List.all_eq_true] at h ⊢
  intro v hv
  simp only [Builtin.zeroCells, Array.toList_map, List.mem_map, Array.mem_toList_iff, Array.mem_range] at hv
  obtain ⟨i, hi, rfl⟩ := hv
  have hlt : i % z.size < z.size := Nat.mod_lt _ (by omega)
  have : z[i % z.size]! = z[i % z.size] := by simp [hlt]
  rw [this]
  exact h _ (by simp)

theorem newL_sound (h : Rel P β s w) {d : TypeDesc} {inf : TypeInfo} {x x' : Value} (hx : VRel P β x x') {n : Nat} {new : List Value} (hn : newL (some d) inf x s = some (n, new)) :
    ∃ new', Appended P w d inf x' n new' ∧ LRel P β new new' := by
  unfold newL at hn
  split at hn
  · rename_i k e
    cases e
    split at hn
    · rename_i l z hz
      split at hn
      · rename_i hb
        simp only [Bool.and_eq_true, Nat.ble_eq] at hb
        obtain ⟨⟨h1, h2⟩, h3⟩ := hb
        simp only [Option.some.injEq, Prod.mk.injEq] at hn
        obtain ⟨rfl, hnew⟩ := hn
        cases hx
        have hp : newL.plain0 = plain1 := by
          funext v
          cases v <;> rfl
        rw [hp, ← cellsL_eq] at h3
        by_cases h0 : l * inf.size = 0
        · have : Nat.beq (l * inf.size) 0 = true := by rw [h0]; rfl
          rw [this] at hnew
          simp only at hnew
          subst hnew
          exact ⟨[], ⟨fun _ => ⟨rfl, h1, h2, z, hz, by rw [if_pos h0]⟩, fun hh => by simp [isIntD] at hh⟩, .nil⟩
        · have : Nat.beq (l * inf.size) 0 = false := by rw [Bool.eq_false_iff]; intro hh; exact h0 (Nat.eq_of_beq_eq_true hh)
          rw [this] at hnew
          simp only at hnew
          subst hnew
          refine ⟨(Builtin.zeroCells z.cells l).toList, ⟨fun _ => ⟨rfl, h1, h2, z, hz, by rw [if_neg h0]⟩, fun hh => by simp [isIntD] at hh⟩, ?_⟩
          by_cases hzs : z.cells.size = 0
          · have : (Builtin.zeroCells z.cells l).toList = [] := by simp [Builtin.zeroCells, hzs]
            rw [this]; exact .nil
          · exact plainL_rel (zeroCells_plain h3 hzs)
      · cases hn
    · cases hn
  · rename_i hd e
    cases e
    split at hn
    · rename_i k hk
      split at hn
      · rename_i l hl
        simp only [Option.some.injEq, Prod.mk.injEq] at hn
        obtain ⟨rfl, rfl⟩ := hn
        obtain ⟨g1, g2⟩ := lenV_sound (P := P) hx hk
        obtain ⟨l', g3, g4⟩ := firstL_sound h hx hl g2
        refine ⟨l', ⟨fun hh => ?_, fun _ => ⟨g1, g3⟩⟩, g4⟩
        cases d <;> simp [isIntD] at hh
        exact (hd _ rfl).elim
      · cases hn
    · cases hn
  · rename_i e; cases e

theorem wrap_small {n : Nat} (h : n ≤ 1000000) : IntKind.i64.wrap (n : Int) = n := IntWalk.i64_in _ (by omega)

/-- Where there is room. -/
theorem run_append_in {argTypes : Array TypeId} {sType xType e : TypeId} {d : TypeDesc} {inf : TypeInfo} (h0 : argTypes[0]? = some sType) (h1 : argTypes[1]? = some xType)
    (hs : P.underlying sType = some (.slice e)) (hd : P.underlying xType = some d) (hi : P.info? e = some inf) {x' : Value} {n : Nat} {new' : List Value} (ha : Appended P w d inf x' n new')
    {base : Option Addr} {sLen cap : Nat} (hfit : sLen + n ≤ cap) (ty : TypeId) :
    (Builtin.append_ argTypes ty #[.slice base sLen cap, x']).run P w =
      (match base with | some a => (storeCells (a.add (sLen * inf.size)) new').run P w | none => .ok () w).andThen fun _ w' => .ok (.slice base (sLen + n) cap) w' := by
  cases d
  case int k =>
    obtain ⟨rfl, g1, g2, z, g3, rfl⟩ := ha.1 rfl
    have hb : ¬ ((n : Int) * (inf.bytes : Int) > 2 ^ 48) := by
      have : n * inf.bytes ≤ 1073741824 := Nat.le_trans (Nat.mul_le_mul_left _ (by omega)) g2
      have h2 : ((n * inf.bytes : Nat) : Int) ≤ 1073741824 := by omega
      rw [Int.natCast_mul] at h2
      omega
    have hneg : ¬ ((n : Int) < 0) := by omega
    by_cases h00 : n * inf.size = 0
    · simp only [Builtin.append_, h0, h1, List.getElem?_toArray, List.getElem?_cons_zero, List.getElem?_cons_succ, Sem.run_bind, run_underlying hs, run_underlying hd, Result.andThen_ok, run_sizeOf' hi, Sem.run_pure, if_true, asInt, asIntOf, wrap_small g1, hneg, if_false, run_typeInfo hi, hb, Int.toNat_natCast, hfit, h00, Bool.not_true, Bool.false_eq_true]
      cases base <;> simp
    · simp only [Builtin.append_, h0, h1, List.getElem?_toArray, List.getElem?_cons_zero, List.getElem?_cons_succ, Sem.run_bind, run_underlying hs, run_underlying hd, Result.andThen_ok, run_sizeOf' hi, Sem.run_pure, if_true, asInt, asIntOf, wrap_small g1, hneg, if_false, run_typeInfo hi, hb, Int.toNat_natCast, hfit, h00, Bool.not_true, Bool.false_eq_true, run_zeroValue' hi g3]
      cases base <;> simp
  all_goals
    obtain ⟨g1, g2⟩ := ha.2 rfl
    simp only [Builtin.append_, h0, h1, List.getElem?_toArray, List.getElem?_cons_zero, List.getElem?_cons_succ, Sem.run_bind, run_underlying hs, run_underlying hd, Result.andThen_ok, run_sizeOf' hi, Sem.run_pure, Bool.false_eq_true, if_false, g1, hfit, if_true, Bool.not_false, g2]
    cases base <;> simp

theorem growBy_le (n : Nat) : ∀ (r c : Nat), c ≤ n + (n + 768) / 4 → Builtin.growBy n r c ≤ n + (n + 768) / 4
  | 0, c, h => h
  | r + 1, c, h => by
    unfold Builtin.growBy
    split
    · exact h
    · exact growBy_le n r _ (by omega)

theorem nextslicecap_le {need cap : Nat} (h : cap < need) : Builtin.nextslicecap need cap ≤ 2 * need + 1000 := by
  unfold Builtin.nextslicecap
  split
  · omega
  · split
    · omega
    · have := growBy_le need 4 cap (by omega); omega

/-- The world behind a draw. -/
abbrev drewW (w : World) : World := { w with drawn := w.drawn + 1 }

/-- Where there is none. -/
theorem run_append_out {argTypes : Array TypeId} {sType xType e : TypeId} {d : TypeDesc} {inf : TypeInfo} (h0 : argTypes[0]? = some sType) (h1 : argTypes[1]? = some xType)
    (hs : P.underlying sType = some (.slice e)) (hd : P.underlying xType = some d) (hi : P.info? e = some inf) {x' : Value} {n : Nat} {new' : List Value} (ha : Appended P (drewW w) d inf x' n new')
    {base : Option Addr} {sLen cap : Nat} (hfit : ¬ sLen + n ≤ cap) (hsm : (sLen + n) * (inf.bytes + 1) ≤ 1073741824) {z : Value} (hz : inf.zero = some z) {old' : List Value}
    (ho : (Builtin.firstCells inf.size sLen (.slice base sLen cap)).run P (drewW w) = .ok ⟨old'⟩ (drewW w)) (ty : TypeId) :
    ∃ nc, sLen + n ≤ nc ∧ (Builtin.append_ argTypes ty #[.slice base sLen cap, x']).run P w =
      .ok (.slice (some ⟨w.heap.size, 0, none⟩) (sLen + n) nc) { (drewW w) with heap := w.heap.push (.cells (⟨old'⟩ ++ ⟨new'⟩ ++ Builtin.zeroCells z.cells (nc - (sLen + n))) e) } := by
  have hbig' : ¬ (((sLen + n : Nat) : Int) > IntKind.i64.max) := by
    have : sLen + n ≤ 1073741824 := Nat.le_trans (Nat.le_mul_of_pos_right _ (by omega)) hsm
    have : IntKind.i64.max = 9223372036854775807 := by decide
    omega
  have hcap : ¬ (Builtin.nextslicecap (sLen + n) cap * inf.bytes > 2 ^ 48) := by
    have h1 := nextslicecap_le (need := sLen + n) (cap := cap) (by omega)
    have h2 : Builtin.nextslicecap (sLen + n) cap * inf.bytes ≤ (2 * (sLen + n) + 1000) * inf.bytes := Nat.mul_le_mul_right _ h1
    have h3 : (sLen + n) * inf.bytes ≤ 1073741824 := Nat.le_trans (Nat.mul_le_mul_left _ (by omega)) hsm
    have h4 : inf.bytes ≤ 1073741824 := by
      have : 1 * (inf.bytes + 1) ≤ (sLen + n) * (inf.bytes + 1) := Nat.mul_le_mul_right _ (by omega)
      omega
    rw [Nat.add_mul, Nat.mul_assoc] at h2
    omega
  refine ⟨(Question.appendCap (sLen + n) cap e).cut (w.tape w.drawn (Question.appendCap (sLen + n) cap e)), by simp [Question.cut], ?_⟩
  cases d
  case int k =>
    obtain ⟨rfl, g1, g2, z', g3, rfl⟩ := ha.1 rfl
    rw [hz] at g3; cases g3
    have hb : ¬ ((n : Int) * (inf.bytes : Int) > 2 ^ 48) := by
      have : n * inf.bytes ≤ 1073741824 := Nat.le_trans (Nat.mul_le_mul_left _ (by omega)) g2
      have h2 : ((n * inf.bytes : Nat) : Int) ≤ 1073741824 := by omega
      rw [Int.natCast_mul] at h2
      omega
    have hneg : ¬ ((n : Int) < 0) := by omega
    by_cases h00 : n * inf.size = 0
    · simp only [Builtin.append_, h0, h1, List.getElem?_toArray, List.getElem?_cons_zero, List.getElem?_cons_succ, Sem.run_bind, run_underlying hs, run_underlying hd, Result.andThen_ok, run_sizeOf' hi, Sem.run_pure, if_true, asInt, asIntOf, wrap_small g1, hneg, if_false, run_typeInfo hi, hb, Int.toNat_natCast, hfit, h00, Bool.not_true, Bool.false_eq_true, hbig', false_and, hcap, run_choose, Question.forced, run_askRoom, ho, run_zeroValue' hi hz]
      (simp [newRow]; exact ⟨rfl, rfl, rfl⟩)
    · simp only [Builtin.append_, h0, h1, List.getElem?_toArray, List.getElem?_cons_zero, List.getElem?_cons_succ, Sem.run_bind, run_underlying hs, run_underlying hd, Result.andThen_ok, run_sizeOf' hi, Sem.run_pure, if_true, asInt, asIntOf, wrap_small g1, hneg, if_false, run_typeInfo hi, hb, Int.toNat_natCast, hfit, h00, Bool.not_true, Bool.false_eq_true, hbig', false_and, hcap, run_choose, Question.forced, run_askRoom, ho, run_zeroValue' hi hz]
      (simp [newRow]; exact ⟨rfl, rfl, rfl⟩)
  all_goals
    obtain ⟨g1, g2⟩ := ha.2 rfl
    simp only [Builtin.append_, h0, h1, List.getElem?_toArray, List.getElem?_cons_zero, List.getElem?_cons_succ, Sem.run_bind, run_underlying hs, run_underlying hd, Result.andThen_ok, run_sizeOf' hi, Sem.run_pure, Bool.false_eq_true, if_false, g1, hfit, if_true, Bool.not_false, g2, hbig', false_and, run_typeInfo hi, hcap, run_choose, Question.forced, run_askRoom, ho, run_zeroValue' hi hz]
    (simp [newRow]; exact ⟨rfl, rfl, rfl⟩)

/-! The slice that is appended to, and what comes of it -/

theorem rowB_elem (h : Rel P β s w) {e : TypeId} {b off cap : Nat} {m : Img} (hb : β b = some m) (hodd : cap % 2 = 1) (hrow : rowB e (some ⟨b, off, none⟩) cap s = true) :
    ∃ c, s.get b = some (.cells c e) ∧ e = m.elem := by
  unfold rowB at hrow
  rw [hodd] at hrow
  simp only at hrow
  split at hrow
  · rename_i c e' hg
    have he := Nat.eq_of_beq_eq_true hrow
    subst he
    exact ⟨c, hg, (h.row hb hg).1⟩
  · cases hrow

theorem growB_spec {inf : TypeInfo} {need n : Nat} {new : List Value} (h : growB inf need n new = true) :
    need * (inf.bytes + 1) ≤ 1073741824 ∧ new.all plainCell = true ∧ new.length = n * inf.size ∧ ∃ z, inf.zero = some z ∧ z.cells.size = inf.size := by
  unfold growB at h
  simp only [Bool.and_eq_true, Nat.ble_eq] at h
  obtain ⟨⟨⟨h1, h2⟩, h3⟩, h4⟩ := h
  have h3 := Nat.eq_of_beq_eq_true h3
  rw [llen_eq] at h3
  refine ⟨h1, h2, by omega, ?_⟩
  split at h4
  · rename_i z hz
    have h4 := Nat.eq_of_beq_eq_true h4
    rw [llen_eq] at h4
    refine ⟨z, hz, ?_⟩
    have := cellsL_eq z
    rw [← Array.length_toList, this]
    omega
  · cases h4

theorem zeroCells_size (z : Array Value) (n : Nat) : (Builtin.zeroCells z n).size = n * z.size := by simp [Builtin.zeroCells]

/-- A new row for a slice that has outgrown its own. -/
theorem newS_sound (h : Rel P β s w) {e : TypeId} {inf : TypeInfo} (hi : P.info? e = some inf) {c c' : List Value} (hc : LRel P β c c') {need nc : Nat} (hn : need ≤ nc) {rest : Array Value}
    (hlen : c.length = need * inf.size) (hrest : rest.size = (nc - need) * inf.size) {r' : Result Next}
    (hr : r' = .ok (.value (.slice (some ⟨w.heap.size, 0, none⟩) need nc)) { (drewW w) with heap := w.heap.push (.cells (⟨c'⟩ ++ rest) e) }) :
    OpS P β s w (newS e c need s) r' := by
  unfold newS
  split
  · rename_i hroom
    intro hf
    have hnx := free_new hf
    have hx := Ext.row h hroom hnx (c := c) (c' := ⟨c'⟩ ++ rest) e (0, 0) (by simp) (fun i v hv => by
      obtain ⟨v', g1, g2⟩ := hc.get hv
      refine ⟨v', ?_, g2⟩
      have hlt : i < c'.length := by
        rcases Nat.lt_or_ge i c'.length with hh | hh
        · exact hh
        · rw [List.getElem?_eq_none hh] at g1; cases g1
      rw [Array.getElem?_append_left (by simpa using hlt)]
      simpa using g1)
    refine ⟨_, _, _, hr, hx.drew rfl rfl rfl rfl, _, rfl, ?_⟩
    refine VRel.sgrown (m := ⟨w.heap.size, 0, (⟨c'⟩ ++ rest : Array Value).size, e⟩) Ren.add_self hn ?_
    simp only [Program.cellsOf, hi, Option.map_some, Option.getD_some, Array.size_append, hrest]
    have : (⟨c'⟩ : Array Value).size = need * inf.size := by
      show c'.length = _
      rw [hc.length, hlen]
    rw [this, Nat.sub_mul]
    have : need * inf.size ≤ nc * inf.size := Nat.mul_le_mul_right _ hn
    omega
  · exact .stuck

theorem LRel.old_len {l l' : List Value} (h : LRel P β l l') {n : Nat} (hn : l.length = n) : l'.length = n := by rw [h.length, hn]

theorem firstL_length {sz n : Nat} {base : Option Addr} {len cap : Nat} {l : List Value} (h : firstL sz n (.slice base len cap) s = some l) (hb : base = none → n = 0) : l.length = n * sz := by
  unfold firstL at h
  split at h
  · rename_i e; cases e
    cases h
    simp [hb rfl]
  · rename_i e; cases e
    split at h
    · rw [ltake_eq] at h
      split at h
      · rename_i hle
        cases h
        simp only [List.length_take]
        omega
      · cases h
    · cases h
  · rename_i e; cases e
  · cases h
end
end Go.M
