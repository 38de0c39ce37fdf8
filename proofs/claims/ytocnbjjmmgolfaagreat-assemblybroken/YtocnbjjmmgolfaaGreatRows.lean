/-
  No cell of these rows narrows 'for every input' (looked for: loops, veiled, ifaces, maps, wideKeys, modest, calm, conditions, laid).
  DERIVED. THE GIVEN ROWS OF THIS SEAT. 5 by the template 'for every input the law returns true; each argument reads behind the call as it read before'; 0 by the template 'total and deterministic' (their statements: YtocnbjjmmgolfaaGreatTotals.lean).
  GIVEN WITH THE SEED: the statements are not yours to turn. If you find one false, say at which input.
  Laid BY PROGRAM, IN A SANDBOX (cutbox-rows.mjs): the forced cells as the released guide's own fill.sh prints them over the translation 22af76fdffeb7de6… (all of the seat's roots in one cut). By AI agents, Wed Nov 11 2026. No macro, syntax, notation, axiom, sorry.
-/
import Derived.Test.YtocnbjjmmgolfaaGreatChecked
import GoSem.Claim
import GoSem.ClaimJoined
import GoSem.ClaimMapViews
import Derived.JoinedTies
import Derived.KernelRfl
namespace Go.Proofs.YtocnbjjmmgolfaaGreat
/- THE CELL 'sum', in the pinned program and in every row, IS THE sha256 OF THE DUMP (.gsa) THAT YtocnbjjmmgolfaaGreatProg.lean LOADS. Nothing in Lean hashes anything: it is a label: what it is worth is what the hold of that sum in a sandbox is worth. -/
noncomputable def Tryz.pinned : Pinned := { name := "ytocnbjjmmgolfaagreat", sum := "22af76fdffeb7de6f8a047dcd597e4b1478429129185e018ea0d86da41bb541d", checked := Tryz.checked }
namespace Rows
def none {H : Type} : Left H := { results := [], args := [] }

/-- 'sherdlaw14.AssemblyTurns': WHATEVER THE INPUT: true; the input reads as it did. -/
def assemblyTurnsSpec : ChangeSpec := { name := "assemblyTurns", fn := fun _ => fun
  | [d1, d2, d3, d4, d5] => { results := [.lit (.bool true)], args := [d1, d2, d3, d4, d5] }
  | _ => none }
def assemblyTurnsRow : OpenClaim := { program := "ytocnbjjmmgolfaagreat", sum := "22af76fdffeb7de6f8a047dcd597e4b1478429129185e018ea0d86da41bb541d", func := "sherd/sherdlaw14.AssemblyTurns", spec := "assemblyTurns", unfollowed := true, recurses := true, apart := false }
def AssemblyTurnsSaid : Prop := assemblyTurnsRow.holds Tryz.pinned (OpenSpec.ofChange assemblyTurnsSpec)

/-- ITS FALSE NEIGHBOUR: 'it returns false'. Refute it at one input. -/
def assemblyTurnsWrong : ChangeSpec := { name := "assemblyTurns", fn := fun _ => fun
  | [d1, d2, d3, d4, d5] => { results := [.lit (.bool false)], args := [d1, d2, d3, d4, d5] }
  | _ => none }
def AssemblyTurnsWrongFalsely : Prop := assemblyTurnsRow.holds Tryz.pinned (OpenSpec.ofChange assemblyTurnsWrong)

/-- 'sherdlaw14.AssemblyChecks': WHATEVER THE INPUT: true; the input reads as it did. -/
def assemblyChecksSpec : ChangeSpec := { name := "assemblyChecks", fn := fun _ => fun
  | [d1, d2, d3, d4] => { results := [.lit (.bool true)], args := [d1, d2, d3, d4] }
  | _ => none }
def assemblyChecksRow : OpenClaim := { program := "ytocnbjjmmgolfaagreat", sum := "22af76fdffeb7de6f8a047dcd597e4b1478429129185e018ea0d86da41bb541d", func := "sherd/sherdlaw14.AssemblyChecks", spec := "assemblyChecks", unfollowed := true, recurses := true, apart := false }
def AssemblyChecksSaid : Prop := assemblyChecksRow.holds Tryz.pinned (OpenSpec.ofChange assemblyChecksSpec)

/-- ITS FALSE NEIGHBOUR: 'it returns false'. Refute it at one input. -/
def assemblyChecksWrong : ChangeSpec := { name := "assemblyChecks", fn := fun _ => fun
  | [d1, d2, d3, d4] => { results := [.lit (.bool false)], args := [d1, d2, d3, d4] }
  | _ => none }
def AssemblyChecksWrongFalsely : Prop := assemblyChecksRow.holds Tryz.pinned (OpenSpec.ofChange assemblyChecksWrong)

/-- 'sherdlaw14.AssemblyClosed': WHATEVER THE INPUT: true; the input reads as it did. -/
def assemblyClosedSpec : ChangeSpec := { name := "assemblyClosed", fn := fun _ => fun
  | [d1, d2, d3, d4, d5] => { results := [.lit (.bool true)], args := [d1, d2, d3, d4, d5] }
  | _ => none }
def assemblyClosedRow : OpenClaim := { program := "ytocnbjjmmgolfaagreat", sum := "22af76fdffeb7de6f8a047dcd597e4b1478429129185e018ea0d86da41bb541d", func := "sherd/sherdlaw14.AssemblyClosed", spec := "assemblyClosed", unfollowed := true, recurses := true, apart := false }
def AssemblyClosedSaid : Prop := assemblyClosedRow.holds Tryz.pinned (OpenSpec.ofChange assemblyClosedSpec)

/-- ITS FALSE NEIGHBOUR: 'it returns false'. Refute it at one input. -/
def assemblyClosedWrong : ChangeSpec := { name := "assemblyClosed", fn := fun _ => fun
  | [d1, d2, d3, d4, d5] => { results := [.lit (.bool false)], args := [d1, d2, d3, d4, d5] }
  | _ => none }
def AssemblyClosedWrongFalsely : Prop := assemblyClosedRow.holds Tryz.pinned (OpenSpec.ofChange assemblyClosedWrong)

/-- 'sherdlaw14.AssemblyFewer': WHATEVER THE INPUT: true; the input reads as it did. -/
def assemblyFewerSpec : ChangeSpec := { name := "assemblyFewer", fn := fun _ => fun
  | [d1, d2, d3, d4, d5] => { results := [.lit (.bool true)], args := [d1, d2, d3, d4, d5] }
  | _ => none }
def assemblyFewerRow : OpenClaim := { program := "ytocnbjjmmgolfaagreat", sum := "22af76fdffeb7de6f8a047dcd597e4b1478429129185e018ea0d86da41bb541d", func := "sherd/sherdlaw14.AssemblyFewer", spec := "assemblyFewer", unfollowed := true, recurses := true, apart := false }
def AssemblyFewerSaid : Prop := assemblyFewerRow.holds Tryz.pinned (OpenSpec.ofChange assemblyFewerSpec)

/-- ITS FALSE NEIGHBOUR: 'it returns false'. Refute it at one input. -/
def assemblyFewerWrong : ChangeSpec := { name := "assemblyFewer", fn := fun _ => fun
  | [d1, d2, d3, d4, d5] => { results := [.lit (.bool false)], args := [d1, d2, d3, d4, d5] }
  | _ => none }
def AssemblyFewerWrongFalsely : Prop := assemblyFewerRow.holds Tryz.pinned (OpenSpec.ofChange assemblyFewerWrong)

/-- 'sherdlaw14.AssemblyBroken': WHATEVER THE INPUT: true; the input reads as it did. -/
def assemblyBrokenSpec : ChangeSpec := { name := "assemblyBroken", fn := fun _ => fun
  | [d] => { results := [.lit (.bool true)], args := [d] }
  | _ => none }
def assemblyBrokenRow : OpenClaim := { program := "ytocnbjjmmgolfaagreat", sum := "22af76fdffeb7de6f8a047dcd597e4b1478429129185e018ea0d86da41bb541d", func := "sherd/sherdlaw14.AssemblyBroken", spec := "assemblyBroken", unfollowed := true, recurses := true, apart := false }
def AssemblyBrokenSaid : Prop := assemblyBrokenRow.holds Tryz.pinned (OpenSpec.ofChange assemblyBrokenSpec)

/-- ITS FALSE NEIGHBOUR: 'it returns false'. Refute it at one input. -/
def assemblyBrokenWrong : ChangeSpec := { name := "assemblyBroken", fn := fun _ => fun
  | [d] => { results := [.lit (.bool false)], args := [d] }
  | _ => none }
def AssemblyBrokenWrongFalsely : Prop := assemblyBrokenRow.holds Tryz.pinned (OpenSpec.ofChange assemblyBrokenWrong)

/- THE SECOND FORM. 'bulk': how many values and letters a reading holds, each counted each time it is reached (what is shared counts as often as it is met; a slice's spare places count too). A statement '..UptoSaid' is the law's where the arguments, and the package variables that the reading takes, are together of bulk at most 1048576: NARROWER than '..Said'. Prove '..Said' where nothing that the law and all that it calls make is longer than what came in: it says more and counts as full. Else prove '..UptoSaid'. A law counts once. -/
mutual
def uptoBulk {H : Type} : DataW H → Nat
  | .lit (.string bytes) => bytes.length + 1
  | .lit _ => 1
  | .nil => 1
  | .ptr d => uptoBulk d + 1
  | .slice elems spare => uptoBulkAll elems + uptoBulkAll spare + 1
  | .agg parts => uptoBulkAll parts + 1
  | .iface _ d => uptoBulk d + 1
  | .map entries => uptoBulkEntries entries + 1
  | .held _ => 1
def uptoBulkAll {H : Type} : List (DataW H) → Nat
  | [] => 0
  | d :: r => uptoBulk d + uptoBulkAll r
def uptoBulkEntries {H : Type} : List (Lit × DataW H) → Nat
  | [] => 0
  | x :: r => uptoBulkEntry x + uptoBulkEntries r
def uptoBulkEntry {H : Type} : Lit × DataW H → Nat
  | (.string bytes, d) => bytes.length + uptoBulk d + 1
  | (_, d) => uptoBulk d + 1
 end
def uptoSmall : (H : Type) → List (DataW H) → Bool := fun _ ds => decide (uptoBulkAll ds ≤ 1048576)
def OpenSpec.upto (s : _root_.Go.ChangeSpec) : _root_.Go.OpenSpec := { _root_.Go.OpenSpec.ofChange s with cond := some uptoSmall }

/-- 'sherdlaw14.AssemblyTurns', WHERE WHAT IT READS IS OF BULK AT MOST 1048576: true; the input reads as it did. -/
def assemblyTurnsUptoRow : OpenClaim := { program := "ytocnbjjmmgolfaagreat", sum := "22af76fdffeb7de6f8a047dcd597e4b1478429129185e018ea0d86da41bb541d", func := "sherd/sherdlaw14.AssemblyTurns", spec := "assemblyTurns", unfollowed := true, recurses := true, apart := false, narrowed := true }
def AssemblyTurnsUptoSaid : Prop := assemblyTurnsUptoRow.holds Tryz.pinned (OpenSpec.upto assemblyTurnsSpec)

/-- 'sherdlaw14.AssemblyChecks', WHERE WHAT IT READS IS OF BULK AT MOST 1048576: true; the input reads as it did. -/
def assemblyChecksUptoRow : OpenClaim := { program := "ytocnbjjmmgolfaagreat", sum := "22af76fdffeb7de6f8a047dcd597e4b1478429129185e018ea0d86da41bb541d", func := "sherd/sherdlaw14.AssemblyChecks", spec := "assemblyChecks", unfollowed := true, recurses := true, apart := false, narrowed := true }
def AssemblyChecksUptoSaid : Prop := assemblyChecksUptoRow.holds Tryz.pinned (OpenSpec.upto assemblyChecksSpec)

/-- 'sherdlaw14.AssemblyClosed', WHERE WHAT IT READS IS OF BULK AT MOST 1048576: true; the input reads as it did. -/
def assemblyClosedUptoRow : OpenClaim := { program := "ytocnbjjmmgolfaagreat", sum := "22af76fdffeb7de6f8a047dcd597e4b1478429129185e018ea0d86da41bb541d", func := "sherd/sherdlaw14.AssemblyClosed", spec := "assemblyClosed", unfollowed := true, recurses := true, apart := false, narrowed := true }
def AssemblyClosedUptoSaid : Prop := assemblyClosedUptoRow.holds Tryz.pinned (OpenSpec.upto assemblyClosedSpec)

/-- 'sherdlaw14.AssemblyFewer', WHERE WHAT IT READS IS OF BULK AT MOST 1048576: true; the input reads as it did. -/
def assemblyFewerUptoRow : OpenClaim := { program := "ytocnbjjmmgolfaagreat", sum := "22af76fdffeb7de6f8a047dcd597e4b1478429129185e018ea0d86da41bb541d", func := "sherd/sherdlaw14.AssemblyFewer", spec := "assemblyFewer", unfollowed := true, recurses := true, apart := false, narrowed := true }
def AssemblyFewerUptoSaid : Prop := assemblyFewerUptoRow.holds Tryz.pinned (OpenSpec.upto assemblyFewerSpec)

/-- 'sherdlaw14.AssemblyBroken', WHERE WHAT IT READS IS OF BULK AT MOST 1048576: true; the input reads as it did. -/
def assemblyBrokenUptoRow : OpenClaim := { program := "ytocnbjjmmgolfaagreat", sum := "22af76fdffeb7de6f8a047dcd597e4b1478429129185e018ea0d86da41bb541d", func := "sherd/sherdlaw14.AssemblyBroken", spec := "assemblyBroken", unfollowed := true, recurses := true, apart := false, narrowed := true }
def AssemblyBrokenUptoSaid : Prop := assemblyBrokenUptoRow.holds Tryz.pinned (OpenSpec.upto assemblyBrokenSpec)

end Rows
end Go.Proofs.YtocnbjjmmgolfaaGreat
