/- The examples of the section: run once. -/
import Derived.Test.YtdejleegamcioaaGreatL21
import Derived.Test.YtdejleegamcioaaGreatL25
namespace Go.Proofs.YtdejleegamcioaaGreat
open Go Go.M
/-- For the examples: the reference's arithmetic out of the table; Least as above. -/
noncomputable def exTable : Table := fun f => match Nat.beq f 12 with
  | true => some (leastN 100000)
  | false => memo Tab.T41 f
theorem lives_run : (⟨[], [], .bool true, []⟩ : Entry).check Tryz.prog exTable 100000 17 = true := by kernel_rfl
end Go.Proofs.YtdejleegamcioaaGreat
