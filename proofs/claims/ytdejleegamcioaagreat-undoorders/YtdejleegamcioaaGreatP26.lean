/- The examples of the section: run once. -/
import Derived.Test.YtdejleegamcioaaGreatP23
import Derived.Test.YtdejleegamcioaaGreatP25
namespace Go.Proofs.YtdejleegamcioaaGreat
open Go Go.M
noncomputable def exTable : zJ := fun f => match Nat.beq f 12 with
 | true => some (qD 100000)
 | false => memo Tab.T41 f
theorem lives_run : (⟨[], [], .bool true, []⟩ : Entry).check Tryz.prog exTable 100000 17 = true := by kernel_rfl
end Go.Proofs.YtdejleegamcioaaGreat
