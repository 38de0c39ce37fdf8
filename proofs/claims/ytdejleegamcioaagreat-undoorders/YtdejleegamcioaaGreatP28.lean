/- From a contract over one goroutine to a good run in the sense of a row that says 'leaving'. -/
/- The start of a law: the arguments, as the abstract machine sees them. -/
/- Comparisons: what is compared with itself is the same. -/
/- Comparisons of splits: what they tell. -/
/- Comparisons of splits, of the program and of the reference. -/
/- The reference of cleanings: what a list begins with. -/
/- The reference of cleanings: what a list of splits begins with. -/
/- undo.clean: what is left of a list that begins with a cleaning. -/
/- Small functions on sets and numbers. -/
/- Copies of lists of sets; a search in them. -/
/- slices.Compact, as far as it is asked: whether it shortens. -/
/- undo.Levels.shows: what levels show. -/
/- undo.Levels.shows: what levels show. -/
/- undo.Check. -/
import Derived.Conc.LeavingOf
import Derived.Handed
import Derived.Test.YtdejleegamcioaaGreatP27
import Derived.Carry
import Derived.Test.YtdejleegamcioaaGreatP23
namespace Go
open Go.Conc
theorem good_of_calls {P : Program} {f : FuncId} {args : Array Value} {W : World} {Post : Value → World → Prop} (hi : P.inits.idxOf? f = none)
  (h : Calls P f args W fun | .returned v, w' => Post v w' | _, _ => False) :
  ∃ M last o w' t', runNT P (M + 1) (solo (G (Frame.enter P f args .normal) []) W) #[] = (.ended o w', t') ∧ runN P M (solo (G (Frame.enter P f args .normal) []) W) = .next last ∧ step P last = .ended o w' ∧ Conc.Good P Post last o w' t' := by
 obtain ⟨n, v, w', fr, hn, hend, hp⟩ := h.done_lone hi
 have e : (runNT P (n + 1) (lone (Frame.enter P f args .normal) [] W) #[]).1 = .ended (.done v) w' := by rw [runNT_fst]; exact hend
 refine ⟨n, lone fr [] w', .done v, w', (runNT P (n + 1) (lone (Frame.enter P f args .normal) [] W) #[]).2, Prod.ext e rfl, hn, step_of_runs hn hend, v, rfl, hp, ?_, handedOver_of_lone hn, ?_, ?_⟩
 ·intro said
  exact (no_race_of_lone (said := said) P n _ _ hn (by simp [lone]) rfl).2
 ·exact ⟨fun g hg => by simp [lone] at hg, rfl⟩
 ·intro i g hg hi
  cases i with
  | zero => exact absurd rfl hi
  | succ k => simp [lone] at hg
end Go
namespace Go.Proofs.YtdejleegamcioaaGreat
open Go Go.M
structure Given (β : Ren) (s : St) (W : World) (v v' : Value) (l : List Int) : Prop where
 rel : Rel Tryz.prog β s W
 val : VRel Tryz.prog β v v'
 fine : Fine s
 sl : SlI s v l
 next : s.next ≤ 1
 free : ∀ b, s.next ≤ b → β b = none
 shut : ∀ b, b < s.next → s.may b = false
theorem given_nil (W : World) : ∃ β s v, Given β s W v (.slice none 0 0) [] := by
 refine ⟨fun _ => none, ⟨0, 0, [], .nil⟩, .slice none 0 0, ⟨?_, .snil, ⟨Nat.le_refl _, fun p h => (by cases h)⟩, .nil 0 rfl rfl, Nat.zero_le _, fun _ _ => rfl, fun b h => (by cases h)⟩⟩
 exact ⟨fun b m h => (by cases h), fun b m o h => (by cases h), fun b b' m m' o o' h => (by cases h), Nat.zero_le _, fun b _ => rfl⟩
theorem given_block (W : World) (m : Img) (c : List Value) (o' : Obj) (v v' : Value) (l : List Int) (ho : W.heap[m.blk]? = some o') (hr : ∀ β, ORel Tryz.prog β m (.cells c 3) o') (hv : VRel Tryz.prog (fun b => if b = 0 then some m else none) v v')
  (hs : ∀ s : St, 0 < s.next → s.get 0 = some (.cells c 3) → SlI s v l) : ∃ β s v, Given β s W v v' l := by
 refine ⟨fun b => if b = 0 then some m else none, ⟨1, 1, [], .node (some (.cells c 3)) .nil .nil⟩, v, ⟨?_, hv, ⟨Nat.le_refl _, fun p h => (by cases h)⟩, hs _ (Nat.one_pos) rfl, Nat.le_refl _, fun b hb => ?_, fun b hb => ?_⟩⟩
 ·refine ⟨fun b m' h hb => ?_, fun b m' o h hb hg => ?_, fun b b' m' m'' o o'' h h' hb hb' hg hg' hm => ?_, (by show 1 ≤ 281474976710655; decide), fun b hb => ?_⟩
  ·have : b = 0 := by simp only at hb; omega
   subst this
   simp only [if_pos] at h
   cases h
   exact (Array.getElem?_eq_some_iff.mp ho).1
  ·have : b = 0 := by simp only at hb; omega
   subst this
   simp only [if_pos] at h
   cases h
   cases hg
   exact ⟨o', ho, hr _⟩
  ·simp only at hb hb'; omega
  ·simp only at hb
   cases b with
   | zero => omega
   | succ k =>
    show Tr.get _ _ = none
    simp only [Tr.get]
    split <;> rfl
 ·simp only at hb
  rw [if_neg (by omega)]
 ·have : b = 0 := by simp only at hb; omega
  subst this
  rfl
theorem given_slice {W : World} {a : Addr} {len cap : Nat} {zs : List Int} (hsp : a.spot = none) (hz : zs.length = cap) (hl : len ≤ cap) (hsh : ∃ x, W.shape? a.block = some x)
  (hc : ∀ i, i < zs.length → W.cell? (a.add i) = some (.int .i64 (zs.getD i 0))) (hf : ∀ i, i < cap → W.frozen? ⟨a.block, a.off + i, none⟩ = false) :
  ∃ β s v, Given β s W v (.slice (some a) len cap) (zs.take len) := by
 obtain ⟨b, off, sp⟩ := a
 simp only at hsp
 subst hsp
 obtain ⟨x, hx⟩ := hsh
 unfold World.shape? at hx
 split at hx
 ·next cs e fz ho =>
  have hcs : ∀ i, i < cap → cs[off + i]? = some (.int .i64 (zs.getD i 0)) := fun i hi => by
   have h := hc i (by omega)
   have e1 : (Addr.add ⟨b, off, none⟩ i) = ⟨b, off + i, none⟩ := by unfold Addr.add; split <;> simp_all
   rw [e1] at h
   simpa [World.cell?, ho] using h
  by_cases h0 : cap = 0
  ·have : zs = [] := List.eq_nil_of_length_eq_zero (by omega)
   subst this
   have hl0 : len = 0 := by omega
   subst hl0 h0
   refine given_block W ⟨b, 0, 0, 3⟩ [] _ (.slice (some ⟨0, 0, none⟩) 0 0) _ _ ho (fun β => ?_) (.szero (m := ⟨b, 0, 0, 3⟩) (by simp)) (fun s hn hg => .block 0 0 0 [] 3 (by simp) hg hn (fun k hk => by simp at hk))
   exact .cells rfl (Nat.zero_le _) (.inl rfl) (fun i _ hi => by simp at hi) (fun i v h => by simp at h)
  ·refine given_block W ⟨b, off, off + cap, 3⟩ (z7 zs) _ (.slice (some ⟨0, 0, none⟩) len (2 * cap)) _ _ ho (fun β => ?_) ?_ (fun s hn hg => .block 0 0 (2 * cap) (z7 zs) 3 (by simp [List.length_take]; omega) hg hn (fun k hk => ?_))
   ·refine .cells rfl ?_ (.inr (by simp [z7]; omega)) (fun i h1 h2 => ?_) (fun i v h => ?_)
    ·have := hcs (cap - 1) (by omega)
     have := (Array.getElem?_eq_some_iff.mp this).1
     simp only; omega
    ·simp only at h1 h2
     have := hf (i - off) (by omega)
     simp only [World.frozen?, ho, show off + (i - off) = i by omega, Bool.and_eq_false_iff, decide_eq_false_iff_not] at this
     omega
    ·have hi : i < zs.length := by
      have := (List.getElem?_eq_some_iff.mp h).1
      simpa [z7] using this
     refine ⟨.int .i64 (zs.getD i 0), ?_, ?_⟩
     ·simp only
      rw [Nat.add_comm]
      exact hcs i (by omega)
     ·have : v = .int .i64 (zs.getD i 0) := by
       have h2 := lget_ints hi
       rw [yx, h] at h2
       exact Option.some.inj h2
      subst this
      exact .int _ _
   ·have := VRel.sknown (P := Tryz.prog) (β := fun b' => if b' = 0 then some (⟨b, off, off + cap, 3⟩ : Img) else none) (b := 0) (off := 0) (len := len) (c := cap) (m := ⟨b, off, off + cap, 3⟩) (by simp)
    simpa using this
   ·have hk2 : k < len := by simp [List.length_take] at hk; omega
    rw [Nat.zero_add, lget_ints (by omega)]
    congr 2
    simp [List.getD_eq_getElem?_getD, List.getElem?_take, hk2]
 ·cases hx
end Go.Proofs.YtdejleegamcioaaGreat
namespace Go.Proofs.YtdejleegamcioaaGreat
open Go Go.M
end Go.Proofs.YtdejleegamcioaaGreat
namespace Go.Proofs.YtdejleegamcioaaGreat
open Go Go.M
end Go.Proofs.YtdejleegamcioaaGreat
namespace Go.Proofs.YtdejleegamcioaaGreat
open Go Go.M
end Go.Proofs.YtdejleegamcioaaGreat
namespace Go.Proofs.YtdejleegamcioaaGreat
open Go Go.M
end Go.Proofs.YtdejleegamcioaaGreat
namespace Go.Proofs.YtdejleegamcioaaGreat
open Go Go.M
section
variable (δ : Slc → List Int) (js : List (Int × Int)) (bad : Int) (may : List Sp)
variable {δ js bad may}
end
end Go.Proofs.YtdejleegamcioaaGreat
namespace Go.Proofs.YtdejleegamcioaaGreat
open Go Go.M
end Go.Proofs.YtdejleegamcioaaGreat
namespace Go.M
section
variable {P : Program} {I : zJ} {F : FF} {s : St} {Q : FF → St → Prop} {d : Option Tmp} {ty : TypeId} {pos : String} {af : Array Edge} {g : Option (Nat × Bool)}
end
end Go.M
namespace Go.Proofs.YtdejleegamcioaaGreat
open Go Go.M
end Go.Proofs.YtdejleegamcioaaGreat
namespace Go.Proofs.YtdejleegamcioaaGreat
open Go Go.M
end Go.Proofs.YtdejleegamcioaaGreat
namespace Go.Proofs.YtdejleegamcioaaGreat
open Go Go.M
theorem un173 : Tryz.prog.underlying 173 = some (.int .u64) := by kernel_rfl
theorem un3 : Tryz.prog.underlying 3 = some (.int .i64) := by kernel_rfl
end Go.Proofs.YtdejleegamcioaaGreat
namespace Go.M
section
variable {P : Program} {I : zJ} {F : FF} {s : St} {Q : FF → St → Prop} {d : Option Tmp} {ty : TypeId} {pos : String} {af : Array Edge} {g : Option (Nat × Bool)}
end
end Go.M
namespace Go.Proofs.YtdejleegamcioaaGreat
open Go Go.M
end Go.Proofs.YtdejleegamcioaaGreat
namespace Go.Proofs.YtdejleegamcioaaGreat
open Go Go.M
end Go.Proofs.YtdejleegamcioaaGreat
namespace Go.M
section
variable {P : Program} {I : zJ} {F : FF} {s : St} {Q : FF → St → Prop} {d : Option Tmp} {ty : TypeId} {pos : String} {af : Array Edge} {g : Option (Nat × Bool)} {W : List Nat} {s0 : St} {L : Hp'} {n : Nat}
end
end Go.M
namespace Go.Proofs.YtdejleegamcioaaGreat
open Go Go.M
end Go.Proofs.YtdejleegamcioaaGreat
namespace Go.Proofs.YtdejleegamcioaaGreat
open Go Go.M
end Go.Proofs.YtdejleegamcioaaGreat
namespace Go.Proofs.YtdejleegamcioaaGreat
open Go Go.M
end Go.Proofs.YtdejleegamcioaaGreat
namespace Go.Proofs.YtdejleegamcioaaGreat
open Go Go.M
section
variable (δ : Slc → List Int) (js : List (Int × Int)) (bad : Int) (may : List Sp) (w : Int) (l : List Sp) (ks ns : List Int)
variable {δ js bad may w l ks ns}
end
end Go.Proofs.YtdejleegamcioaaGreat
