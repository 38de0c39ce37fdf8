/- The examples of the section: run once. -/
import Derived.Test.YtdejleegamcioaaGreatC22
import Derived.Test.YtdejleegamcioaaGreatC31
namespace Go.Proofs.YtdejleegamcioaaGreat
open Go Go.M
noncomputable def exTable : yh := fun f => match Nat.beq f 12 with
 | true => some (leastN 100000)
 | false => memo Tab.T41 f
theorem lives_run : (⟨[], [], .bool true, []⟩ : Entry).check Tryz.prog exTable 100000 17 = true := by kernel_rfl
end Go.Proofs.YtdejleegamcioaaGreat
